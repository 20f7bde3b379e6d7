/- Is a configuration right: the program's answer, and the reference's. -/
import Derived.Test.YtogajmbkjojdhaaConfRef
import Derived.Test.YtogajmbkjojdhaaConfSpans
import Derived.Test.YtogajmbkjojdhaaConfTen2
set_option linter.unusedVariables false
set_option maxRecDepth 100000
namespace Go.Proofs.Ytogajmbkjojdhaa
open Go.RowKit

/-- A configuration that the statements look at. -/
structure Cfg.Few (c : Cfg) : Prop where
  t : c.T.length ≤ 1000000
  l : c.L.length ≤ 1000000

theorem checkv_tens {c : Cfg} (h : tensv c.T ≠ 0) : checkv c = tensv c.T := by unfold checkv; rw [if_pos h]
theorem checkv_many {c : Cfg} (h : tensv c.T = 0) (h2 : 3 < c.L.length) : checkv c = 9 := by unfold checkv; rw [if_neg (by simp [h]), if_pos h2]
theorem checkv_ok {c : Cfg} (h : tensv c.T = 0) (h2 : ¬ 3 < c.L.length) (h3 : risesF 0 c.L = true) (h4 : c.spans.all Sp.ok = true) : checkv c = 0 := by unfold checkv; rw [if_neg (by simp [h]), if_neg h2, if_pos ⟨h3, h4⟩]
theorem checkv_bad {c : Cfg} (h : tensv c.T = 0) (h2 : ¬ 3 < c.L.length) (h3 : ¬ (risesF 0 c.L = true ∧ c.spans.all Sp.ok = true)) : checkv c = 1 := by unfold checkv; rw [if_neg (by simp [h]), if_neg h2, if_neg h3]

set_option maxRecDepth 100000 in
set_option maxHeartbeats 4000000 in
theorem check_any (w : World) (c : Cfg) (hc : c.In w) (hf : c.Few) : Calls Try.prog 26 #[.agg c.cells.toArray] w fun e w' => e = .returned (.int .i64 (checkv c)) ∧ Below w.heap.size w w' := by
  have hA := CfgAt.new c w
  have hb1 : Below w.heap.size w (w.alloc (.cells c.cells.toArray 25)) := (Below.refl _ _).alloc (Nat.le_refl _) _
  obtain ⟨c0, c1, -⟩ := nineteen hA.range
  have hc1 := hc.below hb1
  obtain ⟨av, capv, hvl⟩ := hc1.l.form
  have KT := Lib.hid (tenants_any _ c.tv c.T hc1.t hc1.names hf.t)
  by_cases h1 : tensv c.T = 0
  · rw [h1] at KT
    by_cases h2 : 3 < c.L.length
    · have HE := Lib.hid (checkv_many h1 h2)
      rw [hvl] at c1
      clear h1
      go_enter Try.func26, Try.ntmps26
      go_wp2_with (go_at_call 44; refine KT.out.mono ?_; rintro e W2 ⟨rfl, hb2⟩; have d1 := below_cell hb2 c1; clear c1)
      go_ret
      exact ⟨by rw [HE.out]; rfl, bthen' hb1 hb2⟩
    · cases h3 : risesF 0 c.L with
      | false =>
        have HE := Lib.hid (checkv_bad h1 h2 (by rw [h3]; simp))
        have KL := Lib.hid (fun (W : World) (h : Below (w.alloc (.cells c.cells.toArray 25)).heap.size (w.alloc (.cells c.cells.toArray 25)) W) => limits_any W c.lv c.L (hc1.below h).l hf.l)
        rw [h3] at KL
        rw [hvl] at c1 KL
        clear h1 h3
        go_enter Try.func26, Try.ntmps26
        go_wp2_with (first
          | (go_at_call 45; refine (KL.out _ hb2).mono ?_; rintro e W3 ⟨rfl, rfl⟩)
          | (go_at_call 44; refine KT.out.mono ?_; rintro e W2 ⟨rfl, hb2⟩; have d1 := below_cell hb2 c1; clear c1))
        go_ret
        exact ⟨by rw [HE.out]; rfl, bthen' hb1 hb2⟩
      | true =>
        have KL := Lib.hid (fun (W : World) (h : Below (w.alloc (.cells c.cells.toArray 25)).heap.size (w.alloc (.cells c.cells.toArray 25)) W) => limits_any W c.lv c.L (hc1.below h).l hf.l)
        rw [h3] at KL
        rw [hvl] at c1 KL
        have hgen : ∀ b : Bool, c.spans.all Sp.ok = b → Calls Try.prog 26 #[.agg c.cells.toArray] w fun e w' => e = .returned (.int .i64 (checkv c)) ∧ Below w.heap.size w w' := by
          intro b hsp
          have HE := Lib.hid (show checkv c = if b then 0 else 1 from by
            cases b with
            | true => exact checkv_ok h1 h2 h3 hsp
            | false => exact checkv_bad h1 h2 (by rw [hsp]; simp))
          have HS := Lib.hid hsp
          clear h1 h3 hsp
          cases b with
          | true =>
            go_enter Try.func26, Try.ntmps26
            go_wp2_with (first
              | (go_at_call 46; refine (containsSpan_any _ v4 c.spans HR.out (show (17 : Nat) ≤ 1000000 from by decide)).mono ?_; rintro e W5 ⟨rfl, hb5⟩; rw [HS.out])
              | (go_at_call 47; refine (spans_any _ c).mono ?_; rintro e W4 ⟨v4, rfl, hb4, hr4⟩; have HR := Lib.hid hr4; clear hr4)
              | (go_at_call 45; refine (KL.out _ hb2).mono ?_; rintro e W3 ⟨rfl, rfl⟩)
              | (refine wl_load_row rfl 25 _ rfl w.heap.size rfl 25 c.cells.toArray (0, 0) _ (hA.below hb2) Try.underlying25 rfl (cfgRow' c) ?_)
              | (go_at_call 44; refine KT.out.mono ?_; rintro e W2 ⟨rfl, hb2⟩; have d1 := below_cell hb2 c1; clear c1))
            go_ret
            exact ⟨by rw [HE.out]; rfl, bthen' (bthen' (bthen' hb1 hb2) hb4) hb5⟩
          | false =>
            go_enter Try.func26, Try.ntmps26
            go_wp2_with (first
              | (go_at_call 46; refine (containsSpan_any _ v4 c.spans HR.out (show (17 : Nat) ≤ 1000000 from by decide)).mono ?_; rintro e W5 ⟨rfl, hb5⟩; rw [HS.out])
              | (go_at_call 47; refine (spans_any _ c).mono ?_; rintro e W4 ⟨v4, rfl, hb4, hr4⟩; have HR := Lib.hid hr4; clear hr4)
              | (go_at_call 45; refine (KL.out _ hb2).mono ?_; rintro e W3 ⟨rfl, rfl⟩)
              | (refine wl_load_row rfl 25 _ rfl w.heap.size rfl 25 c.cells.toArray (0, 0) _ (hA.below hb2) Try.underlying25 rfl (cfgRow' c) ?_)
              | (go_at_call 44; refine KT.out.mono ?_; rintro e W2 ⟨rfl, hb2⟩; have d1 := below_cell hb2 c1; clear c1))
            go_ret
            exact ⟨by rw [HE.out]; rfl, bthen' (bthen' (bthen' hb1 hb2) hb4) hb5⟩
        exact hgen _ rfl
  · have HE := Lib.hid (checkv_tens h1)
    have h1' : ¬ (tensv c.T = 0) := h1
    clear h1
    go_enter Try.func26, Try.ntmps26
    go_wp2_with (go_at_call 44; refine KT.out.mono ?_; rintro e W2 ⟨rfl, hb2⟩)
    go_ret
    exact ⟨by rw [HE.out]; rfl, bthen' hb1 hb2⟩

end Go.Proofs.Ytogajmbkjojdhaa
