/- The walk of the statement on bounds. -/
import Derived.Test.YtogajmbkjojdhaaInvStep
set_option linter.unusedVariables false
set_option linter.unusedSimpArgs false
set_option maxRecDepth 100000
namespace Go.Proofs.Ytogajmbkjojdhaa
open Go.RowKit

theorem bounds_nil (w : World) (c : Cfg) (hin : c.In w) (v : Value) (A : List Ia) (hv : Reads iaR w v A) (hA : ∀ a ∈ A, IvIn a.x) (hAl : A.length ≤ 9223372036854775807)
    (hN : ∀ W, Below w.heap.size w W → Calls Try.prog 6 #[.agg c.cells.toArray] W fun e w' => e = .returned (.pointer none) ∧ Below W.heap.size W w') :
    Calls Try.prog 3 #[.agg c.cells.toArray, v] w fun e w' => e = .returned (.bool true) ∧ Below w.heap.size w w' := by
  have hcA := CfgAt.new c w
  have hb1 : Below w.heap.size w (w.alloc (.cells c.cells.toArray 25)) := (Below.refl _ _).alloc (Nat.le_refl _) _
  have HR := Lib.hid hcA.range
  have HB1 := Lib.hid hb1
  have KN := Lib.hid (hN _ hb1)
  obtain ⟨W1, hW1⟩ : ∃ W1, W1 = w.alloc (.cells c.cells.toArray 25) := ⟨_, rfl⟩
  rw [← hW1] at KN HR HB1
  have HG := Lib.hid (fun (W : World) (hb : Below w.heap.size w W) => large_any W c (hin.below hb) v A (hv.below hb) hA hAl)
  clear hcA hb1 hN hin hv hA
  obtain ⟨b, hbb⟩ : ∃ b, b = largeB c A := ⟨_, rfl⟩
  rw [← hbb] at HG
  clear hbb
  go_enter Try.func3, Try.ntmps3
  go_upto_region 1 with fail
  show Code.wp _ _ _ _ (w.alloc (.cells c.cells.toArray 25))
  rw [← hW1]
  clear hW1
  go_upto_region 2 with (first
    | (refine wpList_load_mid rfl 25 _ rfl w.heap.size 0 rfl c.cells _ HR.out Try.underlying25 rfl (cfgRow c) ?_)
    | (go_at_call 6; refine KN.out.mono ?_; rintro e W2 ⟨rfl, hb2⟩))
  have HR2 := Lib.hid (below_range hb2 HR.out)
  have HB2 := Lib.hid (bthen' HB1.out hb2)
  have KG := Lib.hid (HG.out _ HB2.out)
  clear hb2 HR KN HG
  cases b <;>
  · go_wp2_with (first
      | (refine wpList_load_mid rfl 25 _ rfl w.heap.size 0 rfl c.cells _ HR2.out Try.underlying25 rfl (cfgRow c) ?_)
      | (go_at_call 8; refine (live31_any _).mono ?_; rintro e W4 ⟨rfl, hb4⟩)
      | (go_at_call 7; refine KG.out.mono ?_; rintro e W3 ⟨rfl, hb3⟩))
    go_ret
    exact ⟨rfl, bthen' (bthen' HB2.out hb3) hb4⟩
theorem bounds_large (w : World) (c : Cfg) (hin : c.In w) (v : Value) (A : List Ia) (hv : Reads iaR w v A) (hA : ∀ a ∈ A, IvIn a.x) (hAl : A.length ≤ 9223372036854775807) (hf : c.Few) (hck : checkv c = 0) (hlg : largeB c A = true) :
    Calls Try.prog 3 #[.agg c.cells.toArray, v] w fun e w' => e = .returned (.bool true) ∧ Below w.heap.size w w' := by
  have hcA := CfgAt.new c w
  have hb1 : Below w.heap.size w (w.alloc (.cells c.cells.toArray 25)) := (Below.refl _ _).alloc (Nat.le_refl _) _
  have HR := Lib.hid hcA.range
  have HB1 := Lib.hid hb1
  have KN := Lib.hid (new31_any _ c (hin.below hb1) hf hck)
  obtain ⟨W1, hW1⟩ : ∃ W1, W1 = w.alloc (.cells c.cells.toArray 25) := ⟨_, rfl⟩
  rw [← hW1] at KN HR HB1
  have HG := Lib.hid (fun (W : World) (hb : Below w.heap.size w W) => large_any W c (hin.below hb) v A (hv.below hb) hA hAl)
  rw [hlg] at HG
  clear hcA hb1 hin hv hA hlg hf hck
  go_enter Try.func3, Try.ntmps3
  go_upto_region 1 with fail
  show Code.wp _ _ _ _ (w.alloc (.cells c.cells.toArray 25))
  rw [← hW1]
  clear hW1
  go_upto_region 2 with (first
    | (refine wpList_load_mid rfl 25 _ rfl w.heap.size 0 rfl c.cells _ HR.out Try.underlying25 rfl (cfgRow c) ?_)
    | (go_at_call 6; refine KN.out.mono ?_; rintro e W2 ⟨p, nm, lm, rfl, hb2, -, -⟩))
  have HR2 := Lib.hid (below_range hb2 HR.out)
  have HB2 := Lib.hid (bthen' HB1.out hb2)
  have KG := Lib.hid (HG.out _ HB2.out)
  clear hb2 HR KN HG
  go_wp2_with (first
    | (refine wpList_load_mid rfl 25 _ rfl w.heap.size 0 rfl c.cells _ HR2.out Try.underlying25 rfl (cfgRow c) ?_)
    | (go_at_call 8; refine (live31_any _).mono ?_; rintro e W4 ⟨rfl, hb4⟩)
    | (go_at_call 7; refine KG.out.mono ?_; rintro e W3 ⟨rfl, hb3⟩))
  go_ret
  exact ⟨rfl, bthen' (bthen' HB2.out hb3) hb4⟩
theorem large_no {c : Cfg} {A : List Ia} (h : largeB c A = false) : c.T.length ≤ 20 ∧ A.length ≤ 100 := by
  unfold largeB at h
  simp only [Bool.or_eq_false_iff, decide_eq_false_iff_not] at h
  omega
/-- Between the calls of a round. -/
def MidB (w : World) (p nm lm : Nat) (c : Cfg) (last : Int) (L : List Iv) (va : Value) (L0 : List Iv) (wx : World) : Prop := InvS w wx p nm lm c last L ∧ ReadsN ivR (InvB p nm lm) wx va L0
theorem MidB.of {w W5 W6 : World} {p nm lm : Nat} {c : Cfg} {last last2 : Int} {L L2 : List Iv} {va : Value} {L0 : List Iv} (h : MidB w p nm lm c last L va L0 W5) (hu : UpdP (InvB p nm lm) W5 W6) (hm : InvM W6 p nm lm c last2 L2) (ho : InvOk c last2 L2) : MidB w p nm lm c last2 L2 va L0 W6 :=
  ⟨h.1.step hu hm ho, h.2.updP hu fun _ hk => hk⟩
theorem MidB.below' {w W5 W6 : World} {p nm lm : Nat} {c : Cfg} {last : Int} {L : List Iv} {va : Value} {L0 : List Iv} (h : MidB w p nm lm c last L va L0 W5) (hb : Below W5.heap.size W5 W6) : MidB w p nm lm c last L va L0 W6 :=
  ⟨h.1.below' hb, h.2.updP (T := fun _ => False) (UpdP.ofB hb) fun _ hk => hk.elim⟩
theorem ia0_parts {w : World} {b : Nat} {a : Ia} (h : w.rangeAt b 0 (iaR.cells a)) : w.cell? ⟨b, 0, none⟩ = some (.int .i64 a.kind) ∧ w.cell? ⟨b, 1, none⟩ = some (.int .i64 a.x.no) ∧ w.cell? ⟨b, 2, none⟩ = some (.int .i64 a.x.tn) ∧ w.cell? ⟨b, 3, none⟩ = some (.string a.x.nm) ∧ w.cell? ⟨b, 4, none⟩ = some (.int .i64 a.x.wt) := by
  obtain ⟨h0, h1, h2, h3, h4, -⟩ := ia_parts h
  exact ⟨h0, h1, h2, h3, h4⟩
end Go.Proofs.Ytogajmbkjojdhaa
