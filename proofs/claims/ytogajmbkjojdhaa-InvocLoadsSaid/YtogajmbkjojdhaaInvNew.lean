/- Invocations: New. -/
import Derived.Test.YtogajmbkjojdhaaInvAdm
set_option linter.unusedVariables false
set_option linter.unusedSimpArgs false
set_option maxRecDepth 100000
namespace Go.Proofs.Ytogajmbkjojdhaa
open Go.RowKit

theorem built_invs (c : Cfg) (a b : Nat) : Try.prog.built 64 [(0, .agg c.cells.toArray), (2, .map (some a)), (3, .map (some b))] = some (invCells c 0 a b).toArray := by
  obtain ⟨tv, lv, T, L, a2, a3, a4, a5, a6, a7, a8, a9, a10, a11, a12, a13, a14, a15, a16, a17, a18⟩ := c
  kernel_rfl
theorem cap_of {c : Cfg} (h : checkv c = 0) : 1 ≤ c.cap ∧ c.cap ≤ 32 := by
  unfold checkv at h
  split at h
  · rename_i h1; exact absurd h h1
  split at h
  · cases h
  split at h
  · rename_i h3
    have h4 := List.all_eq_true.1 h3.2 ⟨c.cap, 1, 32⟩ (by simp [Cfg.spans])
    exact inB_true.1 h4
  · cases h
theorem InvOk.nil {c : Cfg} (h : checkv c = 0) : InvOk c 0 [] :=
  ⟨List.Pairwise.nil, by simp, by simp, List.Pairwise.nil, by simp, by simp, (cap_of h).2, by omega, by simp⟩
def NewI (w : World) (c : Cfg) (e : Ending) (w' : World) : Prop := ∃ v nm lm, e = .returned (.pointer (some ⟨v, 0, none⟩)) ∧ Below w.heap.size w w' ∧ (w.heap.size ≤ v ∧ w.heap.size ≤ nm ∧ w.heap.size ≤ lm) ∧ InvM w' v nm lm c 0 []
theorem new31_no (w : World) (c : Cfg) (hin : c.In w) (hf : c.Few) (h : checkv c ≠ 0) : Calls Try.prog 6 #[.agg c.cells.toArray] w fun e w' => e = .returned (.pointer none) ∧ Below w.heap.size w w' := by
  have hA := CfgAt.new c w
  have hb1 : Below w.heap.size w (w.alloc (.cells c.cells.toArray 25)) := (Below.refl _ _).alloc (Nat.le_refl _) _
  obtain ⟨r, hr⟩ : ∃ r, r = checkv c := ⟨_, rfl⟩
  have KC := Lib.hid (check_any _ c (hin.below hb1) hf)
  rw [← hr] at KC h
  have hrb : (r != 0) = true := by simp [h]
  have HR := Lib.hid hA.range
  have HB1 := Lib.hid hb1
  obtain ⟨W1, hW1⟩ : ∃ W1, W1 = w.alloc (.cells c.cells.toArray 25) := ⟨_, rfl⟩
  rw [← hW1] at KC HR HB1
  clear hA hb1 hr h hin
  go_enter Try.func6, Try.ntmps6
  go_upto_region 1 with fail
  show Code.wp _ _ _ _ (w.alloc (.cells c.cells.toArray 25))
  rw [← hW1]
  clear hW1
  go_wp2_with (first
    | (refine wpList_load_mid rfl 25 _ rfl w.heap.size 0 rfl c.cells _ HR.out Try.underlying25 rfl (cfgRow c) ?_)
    | (go_at_call 26; refine KC.out.mono ?_; rintro e W2 ⟨rfl, hb2⟩))
  go_ret
  exact ⟨rfl, bthen' HB1.out hb2⟩
set_option maxHeartbeats 4000000 in
theorem new31_any (w : World) (c : Cfg) (hin : c.In w) (hf : c.Few) (h : checkv c = 0) : Calls Try.prog 6 #[.agg c.cells.toArray] w (NewI w c) := by
  have hA := CfgAt.new c w
  have hb1 : Below w.heap.size w (w.alloc (.cells c.cells.toArray 25)) := (Below.refl _ _).alloc (Nat.le_refl _) _
  have KC := Lib.hid (check_any _ c (hin.below hb1) hf)
  rw [h] at KC
  have HR := Lib.hid hA.range
  have HB1 := Lib.hid hb1
  obtain ⟨W1, hW1⟩ : ∃ W1, W1 = w.alloc (.cells c.cells.toArray 25) := ⟨_, rfl⟩
  rw [← hW1] at KC HR HB1
  have hmm := @run_makeMap Try.prog
  clear hA hb1 h hin
  go_enter Try.func6, Try.ntmps6
  go_upto_region 1 with fail
  show Code.wp _ _ _ _ (w.alloc (.cells c.cells.toArray 25))
  rw [← hW1]
  clear hW1
  go_upto_region 3 with (first
    | (refine wpList_load_mid rfl 25 _ rfl w.heap.size 0 rfl c.cells _ HR.out Try.underlying25 rfl (cfgRow c) ?_)
    | (go_at_call 26; refine KC.out.mono ?_; rintro e W2 ⟨rfl, hb2⟩))
  have HR2 := Lib.hid (below_range hb2 HR.out)
  have HB2 := Lib.hid (bthen' HB1.out hb2)
  clear hb2 HR
  have hsz : (W2.alloc (.map #[] 0)).heap.size = W2.heap.size + 1 := by simp
  go_wp2_with (first
    | (refine wpList_load_mid rfl 25 _ rfl w.heap.size 0 rfl c.cells _ HR2.out Try.underlying25 rfl (cfgRow c) ?_)
    | (refine wl_built rfl 64 _ rfl [(0, .agg c.cells.toArray), (2, .map (some W2.heap.size)), (3, .map (some (W2.heap.size + 1)))] (by simp [Act.eval, Act.put, hsz]) _ (built_invs c _ _) ?_))
  go_ret
  have hs2 := HB2.out.size
  have hb3 : Below W2.heap.size W2 (W2.alloc (.map #[] 0)) := (Below.refl _ _).alloc (Nat.le_refl _) _
  have hs3 : (W2.alloc (.map #[] 0)).heap.size = W2.heap.size + 1 := by simp
  have hm1 := MapS.made nkK W2
  have hm2 := MapS.made (intK 3) (W2.alloc (.map #[] 0))
  rw [hs3] at hm2
  have hb4 : Below (W2.alloc (.map #[] 0)).heap.size (W2.alloc (.map #[] 0)) ((W2.alloc (.map #[] 0)).alloc (.map #[] 0)) := (Below.refl _ _).alloc (Nat.le_refl _) _
  have hs4 : ((W2.alloc (.map #[] 0)).alloc (.map #[] 0)).heap.size = W2.heap.size + 2 := by simp
  have hc5 := Cel.new ((W2.alloc (.map #[] 0)).alloc (.map #[] 0)) 64 (invCells c 0 W2.heap.size (W2.heap.size + 1))
  have hb5 : Below ((W2.alloc (.map #[] 0)).alloc (.map #[] 0)).heap.size ((W2.alloc (.map #[] 0)).alloc (.map #[] 0)) (((W2.alloc (.map #[] 0)).alloc (.map #[] 0)).alloc (.cells (invCells c 0 W2.heap.size (W2.heap.size + 1)).toArray 64)) := (Below.refl _ _).alloc (Nat.le_refl _) _
  rw [hs4] at hc5
  refine ⟨W2.heap.size + 2, W2.heap.size, W2.heap.size + 1, ?_, bthen' (bthen' (bthen' HB2.out hb3) hb4) hb5, ⟨by omega, by omega, by omega⟩, ⟨hc5, by omega, by omega, by omega, ?_, ?_⟩⟩
  · simp
  · exact ((hm1.below hb4).below hb5).congr fun k => rfl
  · exact (hm2.below hb5).congr fun k => rfl
end Go.Proofs.Ytogajmbkjojdhaa
