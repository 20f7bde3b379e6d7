/- The reference's Check (printed by genconf.py). -/
import Derived.Test.YtogajmbkjojdhaaConfCheck
import Derived.Deep.CutRange
import Derived.Deep.DeepCutAuto
import Derived.Deep.CutBlock
set_option linter.unusedVariables false
set_option maxRecDepth 100000
namespace Go.Proofs.Ytogajmbkjojdhaa
open Go.RowKit

def aV (c : Cfg) : Bool := inB c.quantum 1 64 && inB c.cost 1 64 && inB c.cap 1 32 && inB c.invs 1 8 && inB c.weight 1 16 && inB c.pools 1 8
def bV (c : Cfg) : Bool := inB c.retries 0 5 && inB c.preempts 0 5 && inB c.base 1 1048576 && inB c.most c.base 1048576 && inB c.lease 1 1048576
def dV (c : Cfg) : Bool := inB c.dead 1 32 && inB c.keep 1 64 && inB c.keys 1 32 && inB c.percent 1 100 && inB c.workers 1 16 && inB c.watch 0 16
theorem spans_abd (c : Cfg) : c.spans.all Sp.ok = (aV c && bV c && dV c) := by simp [Cfg.spans, Sp.ok, aV, bV, dV, Bool.and_assoc]

set_option maxRecDepth 100000 in
set_option maxHeartbeats 8000000 in
theorem refCheck_any (w : World) (c : Cfg) (hc : c.In w) (hf : c.Few) : Calls Try.prog 31 #[.agg c.cells.toArray] w fun e w' => e = .returned (.int .i64 (checkv c)) ∧ Below w.heap.size w w' := by
  have hA := CfgAt.new c w
  have hb1 : Below w.heap.size w (w.alloc (.cells c.cells.toArray 25)) := (Below.refl _ _).alloc (Nat.le_refl _) _
  have hc1 := hc.below hb1
  obtain ⟨av, capv, hvl⟩ := hc1.l.form
  have hr := hA.range
  have KT := Lib.hid (refTenants_any _ c.tv c.T hc1.t hc1.names hf.t)
  by_cases h1 : tensv c.T = 0
  · rw [h1] at KT
    by_cases h2 : 3 < c.L.length
    · have HE := Lib.hid (checkv_many h1 h2)
      obtain ⟨c0, c1, -⟩ := nineteen hr
      rw [hvl] at c1
      clear h1
      go_enter Try.func31, Try.ntmps31
      go_wp2_with (go_at_call 53; refine KT.out.mono ?_; rintro e W2 ⟨rfl, hb2⟩; have d1 := below_cell hb2 c1; clear c1)
      go_ret
      exact ⟨by rw [HE.out]; rfl, bthen' hb1 hb2⟩
    · have KL := Lib.hid (fun (W : World) (h : Below (w.alloc (.cells c.cells.toArray 25)).heap.size (w.alloc (.cells c.cells.toArray 25)) W) => rises_any W c.lv c.L (hc1.below h).l hf.l)
      obtain ⟨c0, c1, -⟩ := nineteen hr
      rw [hvl] at c1 KL
      have HE := Lib.hid (show checkv c = if risesF 0 c.L = true ∧ c.spans.all Sp.ok = true then 0 else 1 from by
        by_cases h3 : risesF 0 c.L = true ∧ c.spans.all Sp.ok = true
        · rw [if_pos h3]; exact checkv_ok h1 h2 h3.1 h3.2
        · rw [if_neg h3]; exact checkv_bad h1 h2 h3)
      rw [spans_abd] at HE
      have HR := Lib.hid hr
      clear h1 hr
      go_enter Try.func31, Try.ntmps31
      go_upto_region 6 with (go_at_call 53; refine KT.out.mono ?_; rintro e W2 ⟨rfl, hb2⟩; have c1' := below_cell hb2 c1; clear c1; have HR2 := Lib.hid (below_range hb2 HR.out))
      go_cut [4] from 17 to 44 (fun v wc => v = .bool (aV c) ∧ W2 = wc)
      case first =>
        obtain ⟨d0, d1, d2, d3, d4, d5, d6, d7, d8, d9, d10, d11, d12, d13, d14, d15, d16, d17, d18⟩ := nineteen HR2.out
        clear d0 d1 d8 d9 d10 d11 d12 d13 d14 d15 d16 d17 d18
        have K0 := Lib.hid (in_any · c.quantum 1 64)
        have K1 := Lib.hid (in_any · c.cost 1 64)
        have K2 := Lib.hid (in_any · c.cap 1 32)
        have K3 := Lib.hid (in_any · c.invs 1 8)
        have K4 := Lib.hid (in_any · c.weight 1 16)
        have K5 := Lib.hid (in_any · c.pools 1 8)
        cases hb_0 : inB c.quantum 1 64 with
        | false =>
          rw [hb_0] at K0
          have HV := Lib.hid (show aV c = false from by simp [aV, hb_0])
          clear hb_0
          go_wp2_with (first | (go_at_call 54; with_reducible refine (K0.out _).mono ?_; rintro e W3 ⟨rfl, rfl⟩))
          go_meet
          exact ⟨by rw [HV.out], rfl⟩
        | true =>
          rw [hb_0] at K0
          cases hb_1 : inB c.cost 1 64 with
          | false =>
            rw [hb_1] at K1
            have HV := Lib.hid (show aV c = false from by simp [aV, hb_0, hb_1])
            clear hb_0 hb_1
            go_wp2_with (first | (go_at_call 54; with_reducible refine (K0.out _).mono ?_; rintro e W3 ⟨rfl, rfl⟩) | (go_at_call 54; with_reducible refine (K1.out _).mono ?_; rintro e W3 ⟨rfl, rfl⟩))
            go_meet
            exact ⟨by rw [HV.out], rfl⟩
          | true =>
            rw [hb_1] at K1
            cases hb_2 : inB c.cap 1 32 with
            | false =>
              rw [hb_2] at K2
              have HV := Lib.hid (show aV c = false from by simp [aV, hb_0, hb_1, hb_2])
              clear hb_0 hb_1 hb_2
              go_wp2_with (first | (go_at_call 54; with_reducible refine (K0.out _).mono ?_; rintro e W3 ⟨rfl, rfl⟩) | (go_at_call 54; with_reducible refine (K1.out _).mono ?_; rintro e W3 ⟨rfl, rfl⟩) | (go_at_call 54; with_reducible refine (K2.out _).mono ?_; rintro e W3 ⟨rfl, rfl⟩))
              go_meet
              exact ⟨by rw [HV.out], rfl⟩
            | true =>
              rw [hb_2] at K2
              cases hb_3 : inB c.invs 1 8 with
              | false =>
                rw [hb_3] at K3
                have HV := Lib.hid (show aV c = false from by simp [aV, hb_0, hb_1, hb_2, hb_3])
                clear hb_0 hb_1 hb_2 hb_3
                go_wp2_with (first | (go_at_call 54; with_reducible refine (K0.out _).mono ?_; rintro e W3 ⟨rfl, rfl⟩) | (go_at_call 54; with_reducible refine (K1.out _).mono ?_; rintro e W3 ⟨rfl, rfl⟩) | (go_at_call 54; with_reducible refine (K2.out _).mono ?_; rintro e W3 ⟨rfl, rfl⟩) | (go_at_call 54; with_reducible refine (K3.out _).mono ?_; rintro e W3 ⟨rfl, rfl⟩))
                go_meet
                exact ⟨by rw [HV.out], rfl⟩
              | true =>
                rw [hb_3] at K3
                cases hb_4 : inB c.weight 1 16 with
                | false =>
                  rw [hb_4] at K4
                  have HV := Lib.hid (show aV c = false from by simp [aV, hb_0, hb_1, hb_2, hb_3, hb_4])
                  clear hb_0 hb_1 hb_2 hb_3 hb_4
                  go_wp2_with (first | (go_at_call 54; with_reducible refine (K0.out _).mono ?_; rintro e W3 ⟨rfl, rfl⟩) | (go_at_call 54; with_reducible refine (K1.out _).mono ?_; rintro e W3 ⟨rfl, rfl⟩) | (go_at_call 54; with_reducible refine (K2.out _).mono ?_; rintro e W3 ⟨rfl, rfl⟩) | (go_at_call 54; with_reducible refine (K3.out _).mono ?_; rintro e W3 ⟨rfl, rfl⟩) | (go_at_call 54; with_reducible refine (K4.out _).mono ?_; rintro e W3 ⟨rfl, rfl⟩))
                  go_meet
                  exact ⟨by rw [HV.out], rfl⟩
                | true =>
                  rw [hb_4] at K4
                  cases hb_5 : inB c.pools 1 8 with
                  | false =>
                    rw [hb_5] at K5
                    have HV := Lib.hid (show aV c = false from by simp [aV, hb_0, hb_1, hb_2, hb_3, hb_4, hb_5])
                    clear hb_0 hb_1 hb_2 hb_3 hb_4 hb_5
                    go_wp2_with (first | (go_at_call 54; with_reducible refine (K0.out _).mono ?_; rintro e W3 ⟨rfl, rfl⟩) | (go_at_call 54; with_reducible refine (K1.out _).mono ?_; rintro e W3 ⟨rfl, rfl⟩) | (go_at_call 54; with_reducible refine (K2.out _).mono ?_; rintro e W3 ⟨rfl, rfl⟩) | (go_at_call 54; with_reducible refine (K3.out _).mono ?_; rintro e W3 ⟨rfl, rfl⟩) | (go_at_call 54; with_reducible refine (K4.out _).mono ?_; rintro e W3 ⟨rfl, rfl⟩) | (go_at_call 54; with_reducible refine (K5.out _).mono ?_; rintro e W3 ⟨rfl, rfl⟩))
                    go_meet
                    exact ⟨by rw [HV.out], rfl⟩
                  | true =>
                    rw [hb_5] at K5
                    have HV := Lib.hid (show aV c = true from by simp [aV, hb_0, hb_1, hb_2, hb_3, hb_4, hb_5])
                    clear hb_0 hb_1 hb_2 hb_3 hb_4 hb_5
                    go_wp2_with (first | (go_at_call 54; with_reducible refine (K0.out _).mono ?_; rintro e W3 ⟨rfl, rfl⟩) | (go_at_call 54; with_reducible refine (K1.out _).mono ?_; rintro e W3 ⟨rfl, rfl⟩) | (go_at_call 54; with_reducible refine (K2.out _).mono ?_; rintro e W3 ⟨rfl, rfl⟩) | (go_at_call 54; with_reducible refine (K3.out _).mono ?_; rintro e W3 ⟨rfl, rfl⟩) | (go_at_call 54; with_reducible refine (K4.out _).mono ?_; rintro e W3 ⟨rfl, rfl⟩) | (go_at_call 54; with_reducible refine (K5.out _).mono ?_; rintro e W3 ⟨rfl, rfl⟩))
                    go_meet
                    exact ⟨by rw [HV.out], rfl⟩
      case rest =>
        obtain ⟨rfl, rfl⟩ := hcut
        go_upto_region 7 with fail
        go_cut [5] from 45 to 69 (fun v wc => v = .bool (bV c) ∧ W2 = wc)
        case first =>
          obtain ⟨d0, d1, d2, d3, d4, d5, d6, d7, d8, d9, d10, d11, d12, d13, d14, d15, d16, d17, d18⟩ := nineteen HR2.out
          clear d0 d1 d2 d3 d4 d5 d6 d7 d13 d14 d15 d16 d17 d18
          have K0 := Lib.hid (in_any · c.retries 0 5)
          have K1 := Lib.hid (in_any · c.preempts 0 5)
          have K2 := Lib.hid (in_any · c.base 1 1048576)
          have K3 := Lib.hid (in_any · c.most c.base 1048576)
          have K4 := Lib.hid (in_any · c.lease 1 1048576)
          cases hb_0 : inB c.retries 0 5 with
          | false =>
            rw [hb_0] at K0
            have HV := Lib.hid (show bV c = false from by simp [bV, hb_0])
            clear hb_0
            go_wp2_with (first | (go_at_call 54; with_reducible refine (K0.out _).mono ?_; rintro e W3 ⟨rfl, rfl⟩))
            go_meet
            exact ⟨by rw [HV.out], rfl⟩
          | true =>
            rw [hb_0] at K0
            cases hb_1 : inB c.preempts 0 5 with
            | false =>
              rw [hb_1] at K1
              have HV := Lib.hid (show bV c = false from by simp [bV, hb_0, hb_1])
              clear hb_0 hb_1
              go_wp2_with (first | (go_at_call 54; with_reducible refine (K0.out _).mono ?_; rintro e W3 ⟨rfl, rfl⟩) | (go_at_call 54; with_reducible refine (K1.out _).mono ?_; rintro e W3 ⟨rfl, rfl⟩))
              go_meet
              exact ⟨by rw [HV.out], rfl⟩
            | true =>
              rw [hb_1] at K1
              cases hb_2 : inB c.base 1 1048576 with
              | false =>
                rw [hb_2] at K2
                have HV := Lib.hid (show bV c = false from by simp [bV, hb_0, hb_1, hb_2])
                clear hb_0 hb_1 hb_2
                go_wp2_with (first | (go_at_call 54; with_reducible refine (K0.out _).mono ?_; rintro e W3 ⟨rfl, rfl⟩) | (go_at_call 54; with_reducible refine (K1.out _).mono ?_; rintro e W3 ⟨rfl, rfl⟩) | (go_at_call 54; with_reducible refine (K2.out _).mono ?_; rintro e W3 ⟨rfl, rfl⟩))
                go_meet
                exact ⟨by rw [HV.out], rfl⟩
              | true =>
                rw [hb_2] at K2
                cases hb_3 : inB c.most c.base 1048576 with
                | false =>
                  rw [hb_3] at K3
                  have HV := Lib.hid (show bV c = false from by simp [bV, hb_0, hb_1, hb_2, hb_3])
                  clear hb_0 hb_1 hb_2 hb_3
                  go_wp2_with (first | (go_at_call 54; with_reducible refine (K0.out _).mono ?_; rintro e W3 ⟨rfl, rfl⟩) | (go_at_call 54; with_reducible refine (K1.out _).mono ?_; rintro e W3 ⟨rfl, rfl⟩) | (go_at_call 54; with_reducible refine (K2.out _).mono ?_; rintro e W3 ⟨rfl, rfl⟩) | (go_at_call 54; with_reducible refine (K3.out _).mono ?_; rintro e W3 ⟨rfl, rfl⟩))
                  go_meet
                  exact ⟨by rw [HV.out], rfl⟩
                | true =>
                  rw [hb_3] at K3
                  cases hb_4 : inB c.lease 1 1048576 with
                  | false =>
                    rw [hb_4] at K4
                    have HV := Lib.hid (show bV c = false from by simp [bV, hb_0, hb_1, hb_2, hb_3, hb_4])
                    clear hb_0 hb_1 hb_2 hb_3 hb_4
                    go_wp2_with (first | (go_at_call 54; with_reducible refine (K0.out _).mono ?_; rintro e W3 ⟨rfl, rfl⟩) | (go_at_call 54; with_reducible refine (K1.out _).mono ?_; rintro e W3 ⟨rfl, rfl⟩) | (go_at_call 54; with_reducible refine (K2.out _).mono ?_; rintro e W3 ⟨rfl, rfl⟩) | (go_at_call 54; with_reducible refine (K3.out _).mono ?_; rintro e W3 ⟨rfl, rfl⟩) | (go_at_call 54; with_reducible refine (K4.out _).mono ?_; rintro e W3 ⟨rfl, rfl⟩))
                    go_meet
                    exact ⟨by rw [HV.out], rfl⟩
                  | true =>
                    rw [hb_4] at K4
                    have HV := Lib.hid (show bV c = true from by simp [bV, hb_0, hb_1, hb_2, hb_3, hb_4])
                    clear hb_0 hb_1 hb_2 hb_3 hb_4
                    go_wp2_with (first | (go_at_call 54; with_reducible refine (K0.out _).mono ?_; rintro e W3 ⟨rfl, rfl⟩) | (go_at_call 54; with_reducible refine (K1.out _).mono ?_; rintro e W3 ⟨rfl, rfl⟩) | (go_at_call 54; with_reducible refine (K2.out _).mono ?_; rintro e W3 ⟨rfl, rfl⟩) | (go_at_call 54; with_reducible refine (K3.out _).mono ?_; rintro e W3 ⟨rfl, rfl⟩) | (go_at_call 54; with_reducible refine (K4.out _).mono ?_; rintro e W3 ⟨rfl, rfl⟩))
                    go_meet
                    exact ⟨by rw [HV.out], rfl⟩
        case rest =>
          obtain ⟨rfl, rfl⟩ := hcut
          go_upto_region 8 with fail
          go_cut [6] from 70 to 97 (fun v wc => v = .bool (dV c) ∧ W2 = wc)
          case first =>
            obtain ⟨d0, d1, d2, d3, d4, d5, d6, d7, d8, d9, d10, d11, d12, d13, d14, d15, d16, d17, d18⟩ := nineteen HR2.out
            clear d0 d1 d2 d3 d4 d5 d6 d7 d8 d9 d10 d11 d12
            have K0 := Lib.hid (in_any · c.dead 1 32)
            have K1 := Lib.hid (in_any · c.keep 1 64)
            have K2 := Lib.hid (in_any · c.keys 1 32)
            have K3 := Lib.hid (in_any · c.percent 1 100)
            have K4 := Lib.hid (in_any · c.workers 1 16)
            have K5 := Lib.hid (in_any · c.watch 0 16)
            cases hb_0 : inB c.dead 1 32 with
            | false =>
              rw [hb_0] at K0
              have HV := Lib.hid (show dV c = false from by simp [dV, hb_0])
              clear hb_0
              go_wp2_with (first | (go_at_call 54; with_reducible refine (K0.out _).mono ?_; rintro e W3 ⟨rfl, rfl⟩))
              go_meet
              exact ⟨by rw [HV.out], rfl⟩
            | true =>
              rw [hb_0] at K0
              cases hb_1 : inB c.keep 1 64 with
              | false =>
                rw [hb_1] at K1
                have HV := Lib.hid (show dV c = false from by simp [dV, hb_0, hb_1])
                clear hb_0 hb_1
                go_wp2_with (first | (go_at_call 54; with_reducible refine (K0.out _).mono ?_; rintro e W3 ⟨rfl, rfl⟩) | (go_at_call 54; with_reducible refine (K1.out _).mono ?_; rintro e W3 ⟨rfl, rfl⟩))
                go_meet
                exact ⟨by rw [HV.out], rfl⟩
              | true =>
                rw [hb_1] at K1
                cases hb_2 : inB c.keys 1 32 with
                | false =>
                  rw [hb_2] at K2
                  have HV := Lib.hid (show dV c = false from by simp [dV, hb_0, hb_1, hb_2])
                  clear hb_0 hb_1 hb_2
                  go_wp2_with (first | (go_at_call 54; with_reducible refine (K0.out _).mono ?_; rintro e W3 ⟨rfl, rfl⟩) | (go_at_call 54; with_reducible refine (K1.out _).mono ?_; rintro e W3 ⟨rfl, rfl⟩) | (go_at_call 54; with_reducible refine (K2.out _).mono ?_; rintro e W3 ⟨rfl, rfl⟩))
                  go_meet
                  exact ⟨by rw [HV.out], rfl⟩
                | true =>
                  rw [hb_2] at K2
                  cases hb_3 : inB c.percent 1 100 with
                  | false =>
                    rw [hb_3] at K3
                    have HV := Lib.hid (show dV c = false from by simp [dV, hb_0, hb_1, hb_2, hb_3])
                    clear hb_0 hb_1 hb_2 hb_3
                    go_wp2_with (first | (go_at_call 54; with_reducible refine (K0.out _).mono ?_; rintro e W3 ⟨rfl, rfl⟩) | (go_at_call 54; with_reducible refine (K1.out _).mono ?_; rintro e W3 ⟨rfl, rfl⟩) | (go_at_call 54; with_reducible refine (K2.out _).mono ?_; rintro e W3 ⟨rfl, rfl⟩) | (go_at_call 54; with_reducible refine (K3.out _).mono ?_; rintro e W3 ⟨rfl, rfl⟩))
                    go_meet
                    exact ⟨by rw [HV.out], rfl⟩
                  | true =>
                    rw [hb_3] at K3
                    cases hb_4 : inB c.workers 1 16 with
                    | false =>
                      rw [hb_4] at K4
                      have HV := Lib.hid (show dV c = false from by simp [dV, hb_0, hb_1, hb_2, hb_3, hb_4])
                      clear hb_0 hb_1 hb_2 hb_3 hb_4
                      go_wp2_with (first | (go_at_call 54; with_reducible refine (K0.out _).mono ?_; rintro e W3 ⟨rfl, rfl⟩) | (go_at_call 54; with_reducible refine (K1.out _).mono ?_; rintro e W3 ⟨rfl, rfl⟩) | (go_at_call 54; with_reducible refine (K2.out _).mono ?_; rintro e W3 ⟨rfl, rfl⟩) | (go_at_call 54; with_reducible refine (K3.out _).mono ?_; rintro e W3 ⟨rfl, rfl⟩) | (go_at_call 54; with_reducible refine (K4.out _).mono ?_; rintro e W3 ⟨rfl, rfl⟩))
                      go_meet
                      exact ⟨by rw [HV.out], rfl⟩
                    | true =>
                      rw [hb_4] at K4
                      cases hb_5 : inB c.watch 0 16 with
                      | false =>
                        rw [hb_5] at K5
                        have HV := Lib.hid (show dV c = false from by simp [dV, hb_0, hb_1, hb_2, hb_3, hb_4, hb_5])
                        clear hb_0 hb_1 hb_2 hb_3 hb_4 hb_5
                        go_wp2_with (first | (go_at_call 54; with_reducible refine (K0.out _).mono ?_; rintro e W3 ⟨rfl, rfl⟩) | (go_at_call 54; with_reducible refine (K1.out _).mono ?_; rintro e W3 ⟨rfl, rfl⟩) | (go_at_call 54; with_reducible refine (K2.out _).mono ?_; rintro e W3 ⟨rfl, rfl⟩) | (go_at_call 54; with_reducible refine (K3.out _).mono ?_; rintro e W3 ⟨rfl, rfl⟩) | (go_at_call 54; with_reducible refine (K4.out _).mono ?_; rintro e W3 ⟨rfl, rfl⟩) | (go_at_call 54; with_reducible refine (K5.out _).mono ?_; rintro e W3 ⟨rfl, rfl⟩))
                        go_meet
                        exact ⟨by rw [HV.out], rfl⟩
                      | true =>
                        rw [hb_5] at K5
                        have HV := Lib.hid (show dV c = true from by simp [dV, hb_0, hb_1, hb_2, hb_3, hb_4, hb_5])
                        clear hb_0 hb_1 hb_2 hb_3 hb_4 hb_5
                        go_wp2_with (first | (go_at_call 54; with_reducible refine (K0.out _).mono ?_; rintro e W3 ⟨rfl, rfl⟩) | (go_at_call 54; with_reducible refine (K1.out _).mono ?_; rintro e W3 ⟨rfl, rfl⟩) | (go_at_call 54; with_reducible refine (K2.out _).mono ?_; rintro e W3 ⟨rfl, rfl⟩) | (go_at_call 54; with_reducible refine (K3.out _).mono ?_; rintro e W3 ⟨rfl, rfl⟩) | (go_at_call 54; with_reducible refine (K4.out _).mono ?_; rintro e W3 ⟨rfl, rfl⟩) | (go_at_call 54; with_reducible refine (K5.out _).mono ?_; rintro e W3 ⟨rfl, rfl⟩))
                        go_meet
                        exact ⟨by rw [HV.out], rfl⟩
          case rest =>
            obtain ⟨rfl, rfl⟩ := hcut
            cases hr : risesF 0 c.L with
            | false =>
              rw [hr] at KL
              have HX := Lib.hid (show checkv c = 1 from by rw [HE.out]; simp [hr])
              clear hr
              go_wp2_with (first | (go_at_call 55; refine (KL.out _ hb2).mono ?_; rintro e W5 ⟨rfl, hb5⟩))
              go_ret
              exact ⟨by rw [HX.out]; rfl, bthen' (bthen' hb1 hb2) hb5⟩
            | true =>
              rw [hr] at KL
              cases ha : aV c with
              | false =>
                have HX := Lib.hid (show checkv c = 1 from by rw [HE.out]; simp [hr, ha])
                clear hr ha
                go_wp2_with (first | (go_at_call 55; refine (KL.out _ hb2).mono ?_; rintro e W5 ⟨rfl, hb5⟩))
                go_ret
                exact ⟨by rw [HX.out]; rfl, bthen' (bthen' hb1 hb2) hb5⟩
              | true =>
                cases hb : bV c with
                | false =>
                  have HX := Lib.hid (show checkv c = 1 from by rw [HE.out]; simp [hr, ha, hb])
                  clear hr ha hb
                  go_wp2_with (first | (go_at_call 55; refine (KL.out _ hb2).mono ?_; rintro e W5 ⟨rfl, hb5⟩))
                  go_ret
                  exact ⟨by rw [HX.out]; rfl, bthen' (bthen' hb1 hb2) hb5⟩
                | true =>
                  cases hd : dV c with
                  | false =>
                    have HX := Lib.hid (show checkv c = 1 from by rw [HE.out]; simp [hr, ha, hb, hd])
                    clear hr ha hb hd
                    go_wp2_with (first | (go_at_call 55; refine (KL.out _ hb2).mono ?_; rintro e W5 ⟨rfl, hb5⟩))
                    go_ret
                    exact ⟨by rw [HX.out]; rfl, bthen' (bthen' hb1 hb2) hb5⟩
                  | true =>
                    have HX := Lib.hid (show checkv c = 0 from by rw [HE.out]; simp [hr, ha, hb, hd])
                    clear hr ha hb hd
                    go_wp2_with (first | (go_at_call 55; refine (KL.out _ hb2).mono ?_; rintro e W5 ⟨rfl, hb5⟩))
                    go_ret
                    exact ⟨by rw [HX.out]; rfl, bthen' (bthen' hb1 hb2) hb5⟩
  · have HE := Lib.hid (checkv_tens h1)
    obtain ⟨c0, c1, -⟩ := nineteen hr
    have h1' : ¬ (tensv c.T = 0) := h1
    clear h1
    go_enter Try.func31, Try.ntmps31
    go_wp2_with (go_at_call 53; refine KT.out.mono ?_; rintro e W2 ⟨rfl, hb2⟩)
    go_ret
    exact ⟨by rw [HE.out]; rfl, bthen' hb1 hb2⟩

end Go.Proofs.Ytogajmbkjojdhaa
