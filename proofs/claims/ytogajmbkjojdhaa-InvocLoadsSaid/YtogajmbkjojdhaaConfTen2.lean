/- What is wrong with tenants: the reference's. -/
import Derived.Test.YtogajmbkjojdhaaConfTen
set_option linter.unusedVariables false
set_option maxRecDepth 100000
namespace Go.Proofs.Ytogajmbkjojdhaa
open Go.RowKit

theorem first_cell {w : World} {b o : Nat} {x : Ten} (h : w.rangeAt b o (tenR.cells x)) : w.cell? ⟨b, o, none⟩ = some (.string x.name) := by have := h 0 _ rfl; simpa using this

set_option maxRecDepth 100000 in
set_option maxHeartbeats 4000000 in
theorem refTenants_any (w : World) (v : Value) (T : List Ten) (hv : Reads tenR w v T) (hn : ∀ x ∈ T, x.name.size ≤ 9223372036854775807) (hbig : T.length ≤ 1000000) :
    Calls Try.prog 53 #[v] w fun e w' => e = .returned (.int .i64 (tensv T)) ∧ Below w.heap.size w w' := by
  obtain ⟨av, capv, rfl⟩ := hv.form
  have HV := Lib.hid hv
  clear hv
  have KL := Lib.hid (in_any · T.length 1 6)
  by_cases h1 : 1 ≤ T.length ∧ T.length ≤ 6
  · have HT := Lib.hid (tensv_some h1.1 h1.2)
    rw [show inB T.length 1 6 = true from inB_true.2 (by omega)] at KL
    go_enter Try.func53, Try.ntmps53
    go_wp2_with (go_at_call 54; refine (KL.out _).mono ?_; rintro e W1 ⟨rfl, rfl⟩)
    go_loopw [3] (fun i wr => ∃ k : Nat, k ≤ T.length ∧ i = .int .i64 k ∧ Below w.heap.size w wr ∧ TensRest T k) (fun i _ => T.length - (intOf i).toNat)
    case atStart => exact ⟨0, by omega, rfl, Below.refl _ _, TensRest.start T⟩
    case round =>
      obtain ⟨k, hk, rfl, hb, hno⟩ := hrel
      have HN := Lib.hid hno
      clear hno
      by_cases hlt : k < T.length
      · obtain ⟨x, hx⟩ : ∃ x, T[k]? = some x := ⟨_, List.getElem?_eq_getElem hlt⟩
        obtain ⟨b, off, rfl, hr⟩ := (HV.out.below hb).at hx
        have hnx : x.name.size ≤ 9223372036854775807 := hn x (List.mem_of_getElem? hx)
        have HX := Lib.hid hx
        clear hx
        obtain ⟨n0, n1, n2⟩ := three_cells hr
        have n0 : wr.cell? ⟨b, off + k * 3, none⟩ = some (.string x.name) := n0
        have n1 : wr.cell? ⟨b, off + k * 3 + 1, none⟩ = some (.int .i64 x.wt) := n1
        have n2 : wr.cell? ⟨b, off + k * 3 + 2, none⟩ = some (.int .i64 x.q) := n2
        have KN := Lib.hid (fun w => refName_any w x.name hnx)
        have K1 := Lib.hid (in_any · x.wt 1 16)
        have K2 := Lib.hid (in_any · x.q 1 256)
        cases hnm : nameB x.name.data.toList with
        | false =>
          have HE := Lib.hid (show tensv T = 5 from by rw [HT.out, HN.out.bad HX.out (by rw [tenv_name hnm]; decide), tenv_name hnm])
          rw [hnm] at KN
          clear HN HX hnm
          go_wp2_with (go_at_call 60; refine (KN.out _).mono ?_; rintro e W4 ⟨rfl, hb4⟩; have k1 := below_cell hb4 n1; have k2 := below_cell hb4 n2; clear n1 n2)
          go_ret
          exact ⟨by rw [HE.out]; rfl, bthen' hb hb4⟩
        | true =>
          rw [hnm] at KN
          cases hw : inB x.wt 1 16 with
          | false =>
            have HE := Lib.hid (show tensv T = 1 from by rw [HT.out, HN.out.bad HX.out (by rw [tenv_bad hnm (by rw [hw]; simp)]; decide), tenv_bad hnm (by rw [hw]; simp)])
            rw [hw] at K1
            clear HN HX hnm hw
            go_wp2_with (first
              | (go_at_call 60; refine (KN.out _).mono ?_; rintro e W4 ⟨rfl, hb4⟩; have k1 := below_cell hb4 n1; have k2 := below_cell hb4 n2; clear n1 n2)
              | (go_at_call 54; refine (K1.out _).mono ?_; rintro e W5 ⟨rfl, rfl⟩))
            go_ret
            exact ⟨by rw [HE.out]; rfl, bthen' hb hb4⟩
          | true =>
            rw [hw] at K1
            cases hq : inB x.q 1 256 with
            | false =>
              have HE := Lib.hid (show tensv T = 1 from by rw [HT.out, HN.out.bad HX.out (by rw [tenv_bad hnm (by rw [hq]; simp)]; decide), tenv_bad hnm (by rw [hq]; simp)])
              rw [hq] at K2
              clear HN HX hnm hw hq
              go_wp2_with (first
                | (go_at_call 60; refine (KN.out _).mono ?_; rintro e W4 ⟨rfl, hb4⟩; have k1 := below_cell hb4 n1; have k2 := below_cell hb4 n2; clear n1 n2)
                | (go_at_call 54; with_reducible refine (K1.out _).mono ?_; rintro e W5 ⟨rfl, rfl⟩)
                | (go_at_call 54; with_reducible refine (K2.out _).mono ?_; rintro e W5 ⟨rfl, rfl⟩))
              go_ret
              exact ⟨by rw [HE.out]; rfl, bthen' hb hb4⟩
            | true =>
              have h0 := tenv_ok hnm hw hq
              rw [hq] at K2
              clear hnm hw hq
              go_wp2_with (first
                | (go_at_call 60; refine (KN.out _).mono ?_; rintro e W4 ⟨rfl, hb4⟩; have k1 := below_cell hb4 n1; have k2 := below_cell hb4 n2; clear n1 n2)
                | (go_at_call 54; with_reducible refine (K1.out _).mono ?_; rintro e W5 ⟨rfl, rfl⟩)
                | (go_at_call 54; with_reducible refine (K2.out _).mono ?_; rintro e W5 ⟨rfl, rfl⟩))
              have HB4 := Lib.hid (HV.out.below (bthen' hb hb4))
              have k0 := below_cell hb4 n0
              have hb := bthen' hb hb4
              clear n0 k1 k2 K1 K2 KN
              go_loopw [4] (fun i wr2 => ∃ j : Nat, j ≤ k ∧ i = .int .i64 j ∧ Below W4.heap.size W4 wr2 ∧ x.name ∉ (T.take j).map Ten.name) (fun i _ => k - (intOf i).toNat)
              case atStart => exact ⟨0, by omega, rfl, Below.refl _ _, by simp⟩
              case round =>
                obtain ⟨j, hj, rfl, hb2, hno⟩ := hrel
                have HO := Lib.hid hno
                clear hno
                by_cases hjk : j < k
                · obtain ⟨y, hy⟩ : ∃ y, T[j]? = some y := ⟨_, List.getElem?_eq_getElem (by omega)⟩
                  obtain ⟨b', off', he', hr'⟩ := HB4.out.at hy
                  simp only [Option.some.injEq, Addr.mk.injEq, and_true] at he'
                  obtain ⟨rfl, rfl⟩ := he'
                  have m0 := below_cell hb2 (first_cell hr')
                  have m1 := below_cell hb2 k0
                  have d0 := fun (z : Later wr) => z.cell (show wr.cell? ⟨b, off + j * 3, none⟩ = some (.string y.name) from m0)
                  have d1 := fun (z : Later wr) => z.cell m1
                  have HY := Lib.hid hy
                  clear hy hr' m0 m1
                  go_wp2_with fail
                  refine wp_region_later (by kernel_rfl) (by kernel_rfl) (Below.refl _ _) ?_
                  repeat (first
                    | go_big_quiet_skip
                    | (go_big_quiet_want; first
                      | (go_big_quiet_op; go_big_quiet_on)))
                  refine wpQuiet_nil ?_
                  rintro ⟨W5, hb5⟩
                  dsimp only
                  by_cases hyx : y.name = x.name
                  · have hxyb : (y.name.toList == x.name.toList) = true := by rw [beq_iff_eq, bytesInj]; exact hyx
                    have HE := Lib.hid (show tensv T = 8 from by
                      rw [HT.out, HN.out.there HX.out h0 (List.mem_map.2 ⟨y, ?_, hyx⟩)]
                      exact List.mem_of_getElem? (by rw [List.getElem?_take_of_lt hjk]; exact HY.out))
                    clear HN HX HO HY hyx h0 d0 d1
                    rw [hxyb]
                    go_wp2_with fail
                    go_ret
                    exact ⟨by rw [HE.out]; rfl, bthen' (bthen' hb hb2) hb5⟩
                  · have hxyb : (y.name.toList == x.name.toList) = false := by rw [beq_eq_false_iff_ne, Ne, bytesInj]; exact hyx
                    have HE := Lib.hid (show x.name ∉ (T.take (j + 1)).map Ten.name from by
                      rw [← take_snoc HY.out, List.map_append, List.mem_append]
                      rintro (h | h)
                      · exact HO.out h
                      · simp at h; exact hyx h.symm)
                    clear HO HY hyx d0 d1
                    rw [hxyb]
                    go_wp2_with fail
                    go_roundw
                    case rel => exact ⟨j + 1, by omega, by go_num, bthen' hb2 hb5, HE.out⟩
                    case measure => simp [intOf]; omega
                · obtain rfl : j = k := by omega
                  have HE := Lib.hid (HN.out.step HX.out h0 HO.out)
                  clear HN HX HO h0
                  go_wp2_with fail
                  go_roundw
                  case rel => exact ⟨j + 1, by omega, by go_num, bthen' hb hb2, HE.out⟩
                  case measure => simp [intOf]; omega
      · obtain rfl : k = T.length := by omega
        have HE := Lib.hid (HN.out.done)
        clear HN
        go_wp2_with fail
        go_ret
        exact ⟨by rw [HT.out, HE.out]; rfl, hb⟩
  · have HT := Lib.hid (show tensv T = 9 from by unfold tensv; rw [if_neg h1])
    rw [show inB T.length 1 6 = false from inB_false.2 (by omega)] at KL
    go_enter Try.func53, Try.ntmps53
    go_wp2_with (go_at_call 54; refine (KL.out _).mono ?_; rintro e W1 ⟨rfl, rfl⟩)
    go_ret
    exact ⟨by rw [HT.out]; rfl, Below.refl _ _⟩

end Go.Proofs.Ytogajmbkjojdhaa
