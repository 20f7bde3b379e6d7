/- The walk of the statement on checking. -/
import Derived.Test.YtefdjjblhbkjiaaConfLive
import Derived.Test.YtefdjjblhbkjiaaConfOpen
set_option linter.unusedVariables false
namespace Go.Proofs.Ytefdjjblhbkjiaa
open Go.RowKit

theorem quiet_load_mid {P : Program} {C : World → Prop} {K : Act → Prop} {a : Act} {o : Oper} (ty : TypeId) (x : Operand) (ho : o.op = .load ty x)
    (b off : Nat) (hx : a.eval x = .pointer (some ⟨b, off, none⟩)) (cs : List Value) (d : TypeDesc) (hr : ∀ w, C w → w.rangeAt b off cs)
    (hu : P.underlying ty = some d) (hd : d.isRow = true) (hi : (P.info? ty).map (·.size) = some cs.length)
    (h : K (a.put o.dst (.agg cs.toArray))) : o.quiet P a C K :=
  ⟨.agg cs.toArray, fun w hw => by
    unfold Oper.quietAt execOp
    simp only [ho, hx, Instr.loadAt, Instr.sureAddr, Sem.run_bind, Sem.run_pure, Result.andThen_ok, run_loadVar_mid w b off ty cs d (hr w hw) hu hd hi]
    trivial, h⟩

set_option maxRecDepth 100000 in
set_option maxHeartbeats 4000000 in
theorem confChecks_of (c : Cfg) (w : World) (hc : c.In w) : Calls Try.prog 3 #[.agg c.cells.toArray] w fun e w' => e = .returned (.bool true) ∧ Below w.heap.size w w' := by
  have hA := CfgAt.new c w
  have hb1 : Below w.heap.size w (w.alloc (.cells c.cells.toArray 25)) := (Below.refl _ _).alloc (Nat.le_refl _) _
  have hc1 := hc.below hb1
  obtain ⟨av, capv, hvl⟩ := hc1.l.form
  obtain ⟨at', capt, hvt⟩ := hc1.t.form
  have hr := hA.range
  obtain ⟨c0, c1, -⟩ := nineteen hr
  rw [hvt] at c0
  rw [hvl] at c1
  by_cases h1 : 100 < c.T.length
  · clear hc hc1 hvl hvt hr hA
    go_enter Try.func3, Try.ntmps3
    go_wp2_with (go_at_call 5; refine (live07_any _).mono ?_; rintro e W2 ⟨rfl, hb2⟩)
    all_goals try omega
    all_goals go_ret
    all_goals exact ⟨rfl, bthen' hb1 hb2⟩
  · by_cases h2 : 100 < c.L.length
    · clear hc hc1 hvl hvt hr hA
      go_enter Try.func3, Try.ntmps3
      go_wp2_with (go_at_call 5; refine (live07_any _).mono ?_; rintro e W2 ⟨rfl, hb2⟩)
      all_goals try omega
      all_goals go_ret
      all_goals exact ⟨rfl, bthen' hb1 hb2⟩
    · have hf : c.Few := ⟨by omega, by omega⟩
      obtain ⟨n, hn⟩ : ∃ n, n = checkv c := ⟨_, rfl⟩
      have K1 := fun (W : World) (hW : Below (w.alloc (.cells c.cells.toArray 25)).heap.size (w.alloc (.cells c.cells.toArray 25)) W) => check_any W c (hc1.below hW) hf
      have K2 := fun (W : World) (hW : Below (w.alloc (.cells c.cells.toArray 25)).heap.size (w.alloc (.cells c.cells.toArray 25)) W) => refCheck_any W c (hc1.below hW) hf
      rw [← hn] at K1 K2
      have K1 := Lib.hid K1
      have K2 := Lib.hid K2
      have RC := Lib.hid (fun (w' : World) (hx : ∃ x : Later (w.alloc (.cells c.cells.toArray 25)), w' = x.w) => (show w'.rangeAt w.heap.size 0 c.cells from by obtain ⟨z, rfl⟩ := hx; exact below_range z.h hr))
      have h1i : decide ((100 : Int) < (c.T.length : Int)) = false := by simp; omega
      have h2i : decide ((100 : Int) < (c.L.length : Int)) = false := by simp; omega
      clear hn hc hc1 hvl hvt hr hf hA
      go_enter Try.func3, Try.ntmps3
      go_upto_region 3 with fail
      refine wp_region_later (W := w.alloc (.cells c.cells.toArray 25)) (by kernel_rfl) (by kernel_rfl) (Below.refl _ _) ?_
      repeat (first
        | go_big_quiet_skip
        | (go_big_quiet_want; first
          | (refine quiet_load_mid 25 _ rfl w.heap.size 0 rfl c.cells _ RC.out Try.underlying25 rfl (cfgRow c) ?_; simp only [Act.put, List.setIfInBounds_toArray, List.set_cons_succ, List.set_cons_zero]; go_big_quiet_on)
          | (go_big_quiet_op; first | go_big_quiet_on | go_big_quiet_call (first
            | (go_at_call 7; exact Calls.later (K1.out _ (Later.h _)))
            | (go_at_call 8; exact Calls.later (K2.out _ (Later.h _)))
            | (go_at_call 6; exact Calls.later_same (num_any _ _))
            | (go_at_call 5; exact Calls.later (live07_any _))))))
      refine wpQuiet_nil ?_
      rintro ⟨W3, hb3⟩
      dsimp only
      go_wp2_with fail
      go_ret
      exact ⟨rfl, bthen' hb1 hb3⟩

end Go.Proofs.Ytefdjjblhbkjiaa
