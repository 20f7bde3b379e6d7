/- The walk of the statement on what a configuration tells. -/
import Derived.Test.YtefdjjblhbkjiaaConfTells2
set_option linter.unusedVariables false
namespace Go.Proofs.Ytefdjjblhbkjiaa
open Go.RowKit

theorem tenRef_range (c : Cfg) (nm : ByteArray) : tenRef c nm = -1 ∨ 0 ≤ tenRef c nm := by
  unfold tenRef
  split
  · rcases ixF_range nm c.T 0 with h | ⟨h, _⟩
    · exact .inl h
    · exact .inr h
  · exact .inl rfl

/-- The walk, whatever the tenant's number. -/
def TellsAt (c : Cfg) (k : Int) (nm : ByteArray) (w : World) : Prop := Calls Try.prog 4 #[.agg c.cells.toArray, .int .i64 k, .string nm] w fun e w' => e = .returned (.bool true) ∧ Below w.heap.size w w'

set_option maxRecDepth 100000 in
set_option maxHeartbeats 4000000 in
theorem confTells_far (c : Cfg) (k : Int) (nm : ByteArray) (w : World) (hc : c.In w) (h : 100 < c.T.length ∨ 100 < c.L.length) : TellsAt c k nm w := by
  unfold TellsAt
  have hA := CfgAt.new c w
  have hb1 : Below w.heap.size w (w.alloc (.cells c.cells.toArray 25)) := (Below.refl _ _).alloc (Nat.le_refl _) _
  have hc1 := hc.below hb1
  obtain ⟨av, capv, hvl⟩ := hc1.l.form
  obtain ⟨at', capt, hvt⟩ := hc1.t.form
  obtain ⟨c0, c1, -⟩ := nineteen hA.range
  rw [hvt] at c0
  rw [hvl] at c1
  clear hc hc1 hvl hvt hA
  rcases h with h1 | h1
  all_goals
    go_enter Try.func4, Try.ntmps4
    go_wp2_with (go_at_call 5; refine (live07_any _).mono ?_; rintro e W2 ⟨rfl, hb2⟩)
    all_goals try omega
    all_goals go_ret
    all_goals exact ⟨rfl, bthen' hb1 hb2⟩

set_option maxRecDepth 100000 in
set_option maxHeartbeats 8000000 in
theorem confTells_near (c : Cfg) (k : Int) (nm : ByteArray) (w : World) (hc : c.In w) (h1 : ¬ 100 < c.T.length) (h2 : ¬ 100 < c.L.length) (i r : Int) (b : Bool)
    (hi : max (tenRef c nm) 0 = i) (hb : decide (0 ≤ tenRef c nm) = b) (hr0 : tenRef c nm = r) (hw : (r = -1 ∧ i = 0 ∧ b = false) ∨ ∃ n : Nat, r = n ∧ i = n ∧ b = true) : TellsAt c k nm w := by
  unfold TellsAt
  have hA := CfgAt.new c w
  have hb1 : Below w.heap.size w (w.alloc (.cells c.cells.toArray 25)) := (Below.refl _ _).alloc (Nat.le_refl _) _
  have hc1 := hc.below hb1
  obtain ⟨av, capv, hvl⟩ := hc1.l.form
  obtain ⟨at', capt, hvt⟩ := hc1.t.form
  have hr := hA.range
  obtain ⟨c0, c1, -⟩ := nineteen hr
  rw [hvt] at c0
  rw [hvl] at c1
  have hf : c.Few := ⟨by omega, by omega⟩
  have h1i : decide ((100 : Int) < (c.T.length : Int)) = false := by simp; omega
  have h2i : decide ((100 : Int) < (c.L.length : Int)) = false := by simp; omega
  have KA := fun (W : World) (hW : Below (w.alloc (.cells c.cells.toArray 25)).heap.size (w.alloc (.cells c.cells.toArray 25)) W) => confTenant_any W c (hc1.below hW) hf nm
  have KB := fun (W : World) (hW : Below (w.alloc (.cells c.cells.toArray 25)).heap.size (w.alloc (.cells c.cells.toArray 25)) W) => refTenant_any W c (hc1.below hW) hf nm
  have K1 := fun (W : World) (hW : Below (w.alloc (.cells c.cells.toArray 25)).heap.size (w.alloc (.cells c.cells.toArray 25)) W) => confClasses_any W c (hc1.below hW) hf
  have K2 := fun (W : World) (hW : Below (w.alloc (.cells c.cells.toArray 25)).heap.size (w.alloc (.cells c.cells.toArray 25)) W) => refClasses_any W c (hc1.below hW) hf
  have K3 := fun (W : World) (hW : Below (w.alloc (.cells c.cells.toArray 25)).heap.size (w.alloc (.cells c.cells.toArray 25)) W) => confLimit_any W c (hc1.below hW) hf k
  have K4 := fun (W : World) (hW : Below (w.alloc (.cells c.cells.toArray 25)).heap.size (w.alloc (.cells c.cells.toArray 25)) W) => refLimit_any W c (hc1.below hW) hf k
  have K5 := fun (W : World) (hW : Below (w.alloc (.cells c.cells.toArray 25)).heap.size (w.alloc (.cells c.cells.toArray 25)) W) => confAttempts_any W c (hc1.below hW) hf
  have K6 := fun (W : World) (hW : Below (w.alloc (.cells c.cells.toArray 25)).heap.size (w.alloc (.cells c.cells.toArray 25)) W) => refAttempts_any W c (hc1.below hW) hf
  rw [hi, hb] at KA
  rw [hr0] at KB
  obtain ⟨n1, hn1⟩ : ∃ n, n = classesv c := ⟨_, rfl⟩
  rw [← hn1] at K1 K2
  obtain ⟨n2, hn2⟩ : ∃ n, n = limitv c k := ⟨_, rfl⟩
  rw [← hn2] at K3 K4
  obtain ⟨n3, hn3⟩ : ∃ n, n = attv c := ⟨_, rfl⟩
  rw [← hn3] at K5 K6
  have KA := Lib.hid KA
  have KB := Lib.hid KB
  have K1 := Lib.hid K1
  have K2 := Lib.hid K2
  have K3 := Lib.hid K3
  have K4 := Lib.hid K4
  have K5 := Lib.hid K5
  have K6 := Lib.hid K6
  have HR := Lib.hid (fun (W : World) (h : Below (w.alloc (.cells c.cells.toArray 25)).heap.size (w.alloc (.cells c.cells.toArray 25)) W) => below_range h hr)
  clear hn1 hn2 hn3 hc hc1 hvl hvt hf hA hi hb hr0
  rcases hw with ⟨rfl, rfl, rfl⟩ | ⟨n, rfl, rfl, rfl⟩
  all_goals
    go_enter Try.func4, Try.ntmps4
    go_upto_region 5 with (first
      | (refine wl_load_mid rfl 25 _ rfl w.heap.size 0 rfl c.cells _ (HR.out _ (Below.refl _ _)) Try.underlying25 rfl (cfgRow c) ?_)
      | (refine wl_load_mid rfl 25 _ rfl w.heap.size 0 rfl c.cells _ (HR.out _ hb2) Try.underlying25 rfl (cfgRow c) ?_)
      | (go_at_call 10; refine (KB.out _ hb2).mono ?_; rintro e W3 ⟨rfl, hb3⟩)
      | (go_at_call 9; refine (KA.out _ (Below.refl _ _)).mono ?_; rintro e W2 ⟨rfl, hb2⟩))
    have hb23 := bthen' hb2 hb3
    refine wp_region_later (W := (w.alloc (.cells c.cells.toArray 25))) (by kernel_rfl) (by kernel_rfl) hb23 ?_
    have RC := Lib.hid (fun (w' : World) (hx : ∃ x : Later (w.alloc (.cells c.cells.toArray 25)), w' = x.w) => (show w'.rangeAt w.heap.size 0 c.cells from by obtain ⟨z, rfl⟩ := hx; exact HR.out _ z.h))
    repeat (first
      | go_big_quiet_skip
      | (go_big_quiet_want; first
        | (refine quiet_load_mid 25 _ rfl w.heap.size 0 rfl c.cells _ RC.out Try.underlying25 rfl (cfgRow c) ?_; simp only [Act.put, List.setIfInBounds_toArray, List.set_cons_succ, List.set_cons_zero]; go_big_quiet_on)
        | (go_big_quiet_op; first | go_big_quiet_on | go_big_quiet_call (first
          | (go_at_call 11; exact Calls.later (K1.out _ (Later.h _)))
          | (go_at_call 12; exact Calls.later (K2.out _ (Later.h _)))
          | (go_at_call 13; exact Calls.later (K3.out _ (Later.h _)))
          | (go_at_call 14; exact Calls.later (K4.out _ (Later.h _)))
          | (go_at_call 15; exact Calls.later (K5.out _ (Later.h _)))
          | (go_at_call 16; exact Calls.later (K6.out _ (Later.h _)))
          | (go_at_call 5; exact Calls.later (live07_any _))))))
    refine wpQuiet_nil ?_
    rintro ⟨W5, hb5⟩
    dsimp only
    go_wp2_with fail
    go_ret
    exact ⟨rfl, bthen' hb1 hb5⟩

theorem confTells_of (c : Cfg) (k : Int) (nm : ByteArray) (w : World) (hc : c.In w) : Calls Try.prog 4 #[.agg c.cells.toArray, .int .i64 k, .string nm] w fun e w' => e = .returned (.bool true) ∧ Below w.heap.size w w' := by
  by_cases h1 : 100 < c.T.length
  · exact confTells_far c k nm w hc (.inl h1)
  · by_cases h2 : 100 < c.L.length
    · exact confTells_far c k nm w hc (.inr h2)
    · refine confTells_near c k nm w hc h1 h2 _ _ _ rfl rfl rfl ?_
      rcases tenRef_range c nm with h | h
      · left; rw [h]; exact ⟨rfl, by omega, rfl⟩
      · right; exact ⟨(tenRef c nm).toNat, by omega, by omega, decide_eq_true h⟩

end Go.Proofs.Ytefdjjblhbkjiaa
