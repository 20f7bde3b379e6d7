/- The statement on calls. -/
import Derived.Test.YtogajmbkjojdhaaInvSm
set_option linter.unusedVariables false
set_option linter.unusedSimpArgs false
set_option maxRecDepth 100000
namespace Go.Proofs.Ytogajmbkjojdhaa
open Go.RowKit

theorem right31_any (w : World) (c : Cfg) (hc : c.In w) (hf : c.Few) : Calls Try.prog 16 #[.agg c.cells.toArray] w fun e w' => e = .returned (.bool (checkv c == 0)) ∧ Below w.heap.size w w' := by
  have hcA := CfgAt.new c w
  have hb1 : Below w.heap.size w (w.alloc (.cells c.cells.toArray 25)) := (Below.refl _ _).alloc (Nat.le_refl _) _
  have KC := Lib.hid (refCheck_any _ c (hc.below hb1) hf)
  have HR := Lib.hid hcA.range
  clear hcA
  go_enter Try.func16, Try.ntmps16
  go_wp2_with (first
    | (refine wpList_load_mid rfl 25 _ rfl w.heap.size 0 rfl c.cells _ HR.out Try.underlying25 rfl (cfgRow c) ?_)
    | (go_at_call 31; refine KC.out.mono ?_; rintro e W2 ⟨rfl, hb2⟩))
  go_ret
  exact ⟨rfl, bthen' hb1 hb2⟩
theorem few_of {c : Cfg} {A : List Ia} (h : largeB c A = false) : c.Few := by
  unfold largeB at h
  simp only [Bool.or_eq_false_iff, decide_eq_false_iff_not] at h
  exact ⟨by omega, by omega⟩
theorem large31_no {c : Cfg} {A : List Ia} (h : largeB c A = false) : A.length ≤ 100 := by
  unfold largeB at h
  simp only [Bool.or_eq_false_iff, decide_eq_false_iff_not] at h
  omega
theorem built_v (c : Cfg) : Try.prog.built 53 [(0, .agg c.cells.toArray)] = some (refCells c 0 (.slice none 0 0)).toArray := by
  obtain ⟨tv, lv, T, L, a2, a3, a4, a5, a6, a7, a8, a9, a10, a11, a12, a13, a14, a15, a16, a17, a18⟩ := c
  kernel_rfl
theorem acts_large (w : World) (c : Cfg) (hin : c.In w) (v : Value) (A : List Ia) (hv : Reads iaR w v A) (hA : ∀ a ∈ A, IvIn a.x) (hAl : A.length ≤ 9223372036854775807) (hlg : largeB c A = true) :
    Calls Try.prog 4 #[.agg c.cells.toArray, v] w fun e w' => e = .returned (.bool true) ∧ Below w.heap.size w w' := by
  have hcA := CfgAt.new c w
  have hb1 : Below w.heap.size w (w.alloc (.cells c.cells.toArray 25)) := (Below.refl _ _).alloc (Nat.le_refl _) _
  have HR := Lib.hid hcA.range
  have HB1 := Lib.hid hb1
  have KG := Lib.hid (large_any _ c (hin.below hb1) v A (hv.below hb1) hA hAl)
  rw [hlg] at KG
  obtain ⟨W1, hW1⟩ : ∃ W1, W1 = w.alloc (.cells c.cells.toArray 25) := ⟨_, rfl⟩
  rw [← hW1] at KG HR HB1
  clear hcA hb1 hin hv hA hlg
  go_enter Try.func4, Try.ntmps4
  go_upto_region 1 with fail
  show Code.wp _ _ _ _ (w.alloc (.cells c.cells.toArray 25))
  rw [← hW1]
  clear hW1
  go_wp2_with (first
    | (refine wpList_load_mid rfl 25 _ rfl w.heap.size 0 rfl c.cells _ HR.out Try.underlying25 rfl (cfgRow c) ?_)
    | (go_at_call 8; refine (live31_any _).mono ?_; rintro e W4 ⟨rfl, hb4⟩)
    | (go_at_call 7; refine KG.out.mono ?_; rintro e W3 ⟨rfl, hb3⟩))
  go_ret
  exact ⟨rfl, bthen' (bthen' HB1.out hb3) hb4⟩
set_option maxHeartbeats 4000000 in
theorem acts_wrong (w : World) (c : Cfg) (hin : c.In w) (v : Value) (A : List Ia) (hv : Reads iaR w v A) (hA : ∀ a ∈ A, IvIn a.x) (hAl : A.length ≤ 9223372036854775807) (hlg : largeB c A = false) (hck : checkv c ≠ 0) :
    Calls Try.prog 4 #[.agg c.cells.toArray, v] w fun e w' => e = .returned (.bool true) ∧ Below w.heap.size w w' := by
  have hcA := CfgAt.new c w
  have hb1 : Below w.heap.size w (w.alloc (.cells c.cells.toArray 25)) := (Below.refl _ _).alloc (Nat.le_refl _) _
  have HR := Lib.hid hcA.range
  have HB1 := Lib.hid hb1
  have hf := few_of hlg
  have KG := Lib.hid (large_any _ c (hin.below hb1) v A (hv.below hb1) hA hAl)
  rw [hlg] at KG
  have KN := Lib.hid (fun (W : World) (hb : Below w.heap.size w W) => new31_no W c (hin.below hb) hf hck)
  have KR := Lib.hid (fun (W : World) (hb : Below w.heap.size w W) => right31_any W c (hin.below hb) hf)
  have hckb : (checkv c == 0) = false := by simp [hck]
  rw [hckb] at KR
  obtain ⟨W1, hW1⟩ : ∃ W1, W1 = w.alloc (.cells c.cells.toArray 25) := ⟨_, rfl⟩
  rw [← hW1] at KG HR HB1
  clear hcA hb1 hin hv hA hlg hck hf hckb
  go_enter Try.func4, Try.ntmps4
  go_upto_region 1 with fail
  show Code.wp _ _ _ _ (w.alloc (.cells c.cells.toArray 25))
  rw [← hW1]
  clear hW1
  go_upto_region 5 with (first
    | (refine wpList_load_mid rfl 25 _ rfl w.heap.size 0 rfl c.cells _ (below_range hb3 (below_range hb2 HR.out)) Try.underlying25 rfl (cfgRow c) ?_)
    | (refine wpList_load_mid rfl 25 _ rfl w.heap.size 0 rfl c.cells _ (below_range hb2 HR.out) Try.underlying25 rfl (cfgRow c) ?_)
    | (refine wpList_load_mid rfl 25 _ rfl w.heap.size 0 rfl c.cells _ HR.out Try.underlying25 rfl (cfgRow c) ?_)
    | (go_at_call 16; refine (KR.out _ (bthen' (bthen' HB1.out hb2) hb3)).mono ?_; rintro e W4 ⟨rfl, hb4⟩)
    | (go_at_call 6; refine (KN.out _ (bthen' HB1.out hb2)).mono ?_; rintro e W3 ⟨rfl, hb3⟩)
    | (go_at_call 7; refine KG.out.mono ?_; rintro e W2 ⟨rfl, hb2⟩))
  have HB4 := Lib.hid (bthen' (bthen' (bthen' HB1.out hb2) hb3) hb4)
  clear hb2 hb3 hb4 KG KN KR HR HB1
  go_upto_region 6 with (go_at_call 10; refine (open_nil _ _ _ _).mono ?_; rintro e W5 ⟨rfl, hb5⟩)
  have HB5 := Lib.hid (bthen' HB4.out hb5)
  clear hb5 HB4
  go_wp2_with (first
    | (go_at_call 17; refine (num31_any _ _).mono ?_; rintro e w' ⟨rfl, rfl⟩)
    | (go_at_call 18; refine (may_nil _ _ _ _).mono ?_; rintro e W6 ⟨rfl, hb6⟩)
    | (go_at_call 12; refine (close_nil _ _).mono ?_; rintro e W7 ⟨rfl, hb7⟩)
    | (go_at_call 13; refine (admit_nil _ _).mono ?_; rintro e W8 ⟨rfl, hb8⟩)
    | (go_at_call 19; refine (room_nil _ _).mono ?_; rintro e W9 ⟨rfl, hb9⟩)
    | (go_at_call 14; refine (leave_nil _ _).mono ?_; rintro e W10 ⟨rfl, hb10⟩)
    | (go_at_call 9; refine (all_nil _).mono ?_; rintro e w' ⟨rfl, rfl⟩)
    | (go_at_call 20; refine (last_nil _).mono ?_; rintro e w' ⟨rfl, rfl⟩)
    | (go_at_call 15; refine (load_nil _ _).mono ?_; rintro e W11 ⟨rfl, hb11⟩)
    | (go_at_call 8; refine (live31_any _).mono ?_; rintro e W12 ⟨rfl, hb12⟩))
  go_ret
  exact ⟨by first | rfl | simp, bthen' (bthen' (bthen' (bthen' (bthen' (bthen' (bthen' HB5.out hb6) hb7) hb8) hb9) hb10) hb11) hb12⟩
end Go.Proofs.Ytogajmbkjojdhaa
