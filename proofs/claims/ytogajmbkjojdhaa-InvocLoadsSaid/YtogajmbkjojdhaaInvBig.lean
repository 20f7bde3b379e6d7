/- Invocations of a configuration that is too great; what is more than is gone through here. -/
import Derived.Test.YtogajmbkjojdhaaInvLive
set_option linter.unusedVariables false
set_option linter.unusedSimpArgs false
set_option maxRecDepth 100000
namespace Go.Proofs.Ytogajmbkjojdhaa
open Go.RowKit

theorem tenants_big (w : World) (v : Value) (T : List Ten) (hv : Reads tenR w v T) (h : 6 < T.length) :
    Calls Try.prog 44 #[v] w fun e w' => e = .returned (.int .i64 9) ∧ Below w.heap.size w w' := by
  obtain ⟨av, capv, rfl⟩ := hv.form
  clear hv
  have q1 : decide ((T.length : Int) < 1) = false := by simp; omega
  have q2 : decide ((6 : Int) < (T.length : Int)) = true := by simp; omega
  go_enter Try.func44, Try.ntmps44
  go_wp2_with fail
  all_goals try (exfalso; omega)
  go_ret
  exact ⟨rfl, Below.refl _ _⟩
theorem check_big (w : World) (c : Cfg) (hc : c.In w) (hf : ¬ c.Few) : checkv c ≠ 0 ∧ Calls Try.prog 26 #[.agg c.cells.toArray] w fun e w' => e = .returned (.int .i64 (checkv c)) ∧ Below w.heap.size w w' := by
  have hA := CfgAt.new c w
  have hb1 : Below w.heap.size w (w.alloc (.cells c.cells.toArray 25)) := (Below.refl _ _).alloc (Nat.le_refl _) _
  obtain ⟨c0, c1, -⟩ := nineteen hA.range
  have hc1 := hc.below hb1
  obtain ⟨av, capv, hvl⟩ := hc1.l.form
  have HB1 := Lib.hid hb1
  by_cases h6 : 6 < c.T.length
  · have ht : tensv c.T = 9 := tensv_many (by omega)
    have hk : checkv c = 9 := by rw [checkv_tens (by rw [ht]; decide), ht]
    refine ⟨by rw [hk]; decide, ?_⟩
    rw [hk]
    have KT := Lib.hid (tenants_big _ c.tv c.T hc1.t h6)
    clear hc hc1 hA hf ht hk h6
    go_enter Try.func26, Try.ntmps26
    go_wp2_with (go_at_call 44; refine KT.out.mono ?_; rintro e W2 ⟨rfl, hb2⟩)
    go_ret
    exact ⟨rfl, bthen' HB1.out hb2⟩
  · have hL : 3 < c.L.length := by
      rcases Nat.lt_or_ge 1000000 c.L.length with h | h
      · omega
      · exact absurd ⟨by omega, h⟩ hf
    have KT := Lib.hid (tenants_any _ c.tv c.T hc1.t hc1.names (by omega))
    by_cases h1 : tensv c.T = 0
    · have hk : checkv c = 9 := checkv_many h1 hL
      refine ⟨by rw [hk]; decide, ?_⟩
      rw [hk]
      rw [h1] at KT
      rw [hvl] at c1
      clear h1 hk hc hc1 hA hf
      go_enter Try.func26, Try.ntmps26
      go_wp2_with (go_at_call 44; refine KT.out.mono ?_; rintro e W2 ⟨rfl, hb2⟩; have d1 := below_cell hb2 c1; clear c1)
      all_goals try (exfalso; omega)
      go_ret
      exact ⟨rfl, bthen' HB1.out hb2⟩
    · have hk : checkv c = tensv c.T := checkv_tens h1
      refine ⟨by rw [hk]; exact h1, ?_⟩
      rw [hk]
      obtain ⟨r, hr⟩ : ∃ r, r = tensv c.T := ⟨_, rfl⟩
      rw [← hr] at KT h1 ⊢
      have hrb : (r != 0) = true := by simp [h1]
      clear h1 hk hc hc1 hA hf hr
      go_enter Try.func26, Try.ntmps26
      go_wp2_with (go_at_call 44; refine KT.out.mono ?_; rintro e W2 ⟨rfl, hb2⟩)
      go_ret
      exact ⟨rfl, bthen' HB1.out hb2⟩
theorem new31_big (w : World) (c : Cfg) (hin : c.In w) (hf : ¬ c.Few) : Calls Try.prog 6 #[.agg c.cells.toArray] w fun e w' => e = .returned (.pointer none) ∧ Below w.heap.size w w' := by
  have hA := CfgAt.new c w
  have hb1 : Below w.heap.size w (w.alloc (.cells c.cells.toArray 25)) := (Below.refl _ _).alloc (Nat.le_refl _) _
  obtain ⟨h, kc⟩ := check_big _ c (hin.below hb1) hf
  obtain ⟨r, hr⟩ : ∃ r, r = checkv c := ⟨_, rfl⟩
  have KC := Lib.hid kc
  rw [← hr] at KC h
  have hrb : (r != 0) = true := by simp [h]
  have HR := Lib.hid hA.range
  have HB1 := Lib.hid hb1
  obtain ⟨W1, hW1⟩ : ∃ W1, W1 = w.alloc (.cells c.cells.toArray 25) := ⟨_, rfl⟩
  rw [← hW1] at KC HR HB1
  clear hA hb1 hr h hin kc
  go_enter Try.func6, Try.ntmps6
  go_upto_region 1 with fail
  show Code.wp _ _ _ _ (w.alloc (.cells c.cells.toArray 25))
  rw [← hW1]
  clear hW1
  go_wp2_with (first
    | (refine wpList_load_mid rfl 25 _ rfl w.heap.size 0 rfl c.cells _ HR.out Try.underlying25 rfl (cfgRow c) ?_)
    | (go_at_call 26; refine KC.out.mono ?_; rintro e W2 ⟨rfl, hb2⟩))
  go_ret
  exact ⟨rfl, bthen' HB1.out hb2⟩
end Go.Proofs.Ytogajmbkjojdhaa
