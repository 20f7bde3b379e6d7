/- 'append(append([]T{}, l...), x)' in a region that draws its order: what holds, whatever has come; each operation's step. -/
import Derived.Test.YtogajmbkjojdhaaRec
import Derived.Test.YtogajmbkjojdhaaInv
set_option linter.unusedVariables false
namespace Go.Proofs.Ytogajmbkjojdhaa
open Go.RowKit

theorem wp_move {P : Program} {o : Oper} {a : Act} {w : World} {K : Act → World → Prop} {Q : Exit → Act → World → Prop} (x : Operand) (ho : o.op = .move x) (h : K (a.put o.dst (a.eval x)) w) : o.wp P a w K Q := by
  unfold Oper.wp execOp
  simp [ho]
  exact h
theorem wp_assign {P : Program} {o : Oper} {a : Act} {w : World} {K : Act → World → Prop} {Q : Exit → Act → World → Prop} (x : Operand) (ho : o.op = .assign x) (h : K (a.put o.dst (a.eval x)) w) : o.wp P a w K Q := by
  unfold Oper.wp execOp
  simp [ho]
  exact h

def tick (b : Bool) : Nat := if b then 0 else 1

/-- 0: the empty slice (v8) · 1: l (v9) · 2: l appended (v10) · 3: x (v11) · 4: the slice of x (v12) · 5: x appended (v13). -/
structure Two {α : Type} (R : Rec α) (W0 : World) (v : Value) (L : List α) (x : α) (w : World) (d0 d1 d2 d3 d4 d5 : Bool) (v8 v9 v10 v11 v12 v13 : Value) : Prop where
  below : Below W0.heap.size W0 w
  p0 : d0 = true → d2 = false → Owns R W0.heap.size w v8 []
  p1 : d1 = true → v9 = v
  p2 : d2 = true → d5 = false → Owns R W0.heap.size w v10 L
  p3 : d3 = true → v11 = .agg (R.cells x).toArray
  p4 : d4 = true → d5 = false → ∃ c, v12 = .slice (some ⟨c, 0, none⟩) 1 1 ∧ W0.heap.size ≤ c ∧ c < w.heap.size ∧ w.rangeAt c 0 (R.cells x) ∧ (d0 = true → d2 = false → v8.ownBlock ≠ some c)
  p5 : d5 = true → Owns R W0.heap.size w v13 (L ++ [x])
  e20 : d2 = true → d0 = true
  e21 : d2 = true → d1 = true
  e52 : d5 = true → d2 = true ∧ d4 = true
  e43 : d4 = true → d3 = true

namespace Two
variable {α : Type} {R : Rec α} {W0 : World} {v : Value} {L : List α} {x : α} {w : World} {d0 d1 d2 d3 d4 d5 : Bool} {v8 v9 v10 v11 v12 v13 : Value}
theorem start {w : World} (h : Below W0.heap.size W0 w) : Two R W0 v L x w false false false false false false v8 v9 v10 v11 v12 v13 :=
  ⟨h, by simp, by simp, by simp, by simp, by simp, by simp, by simp, by simp, by simp, by simp⟩
theorem step0 (hI : Two R W0 v L x w false d1 d2 d3 d4 d5 v8 v9 v10 v11 v12 v13) : Two R W0 v L x (w.alloc (.cells #[] R.ty)) true d1 d2 d3 d4 d5 (.slice (some ⟨w.heap.size, 0, none⟩) 0 0) v9 v10 v11 v12 v13 := by
  refine ⟨hI.below.alloc hI.below.size _, fun _ _ => Owns.made hI.below.size, hI.p1, fun h => (by have := hI.e20 h; cases this), hI.p3, fun h4 h5 => ?_, fun h5 => (by have := hI.e20 (hI.e52 h5).1; cases this), fun _ => rfl, hI.e21, hI.e52, hI.e43⟩
  obtain ⟨c, hc, h1, h2, h3, _⟩ := hI.p4 h4 h5
  exact ⟨c, hc, h1, by simp; omega, World.rangeAt_alloc h3 _, fun _ _ => by simp [Value.ownBlock]; omega⟩
theorem step1 (hI : Two R W0 v L x w d0 false d2 d3 d4 d5 v8 v9 v10 v11 v12 v13) : Two R W0 v L x w d0 true d2 d3 d4 d5 v8 v v10 v11 v12 v13 :=
  ⟨hI.below, hI.p0, fun _ => rfl, hI.p2, hI.p3, hI.p4, hI.p5, hI.e20, fun h => (by have := hI.e21 h; cases this), hI.e52, hI.e43⟩
theorem step2 (hI : Two R W0 v L x w true true false d3 d4 d5 v8 v9 v10 v11 v12 v13) {u' : Value} {w2 : World} (hO2 : Owns R W0.heap.size w2 u' ([] ++ L)) (hg : w.grownBy w2 v8.ownBlock) : Two R W0 v L x w2 true true true d3 d4 d5 v8 v9 u' v11 v12 v13 := by
  have hO := hI.p0 rfl rfl
  refine ⟨hI.below.grown hg hI.below.size (fun k hk => (hO.lt k hk).1), fun _ h => (by cases h), hI.p1, fun _ _ => hO2, hI.p3, fun h4 h5 => ?_, fun h5 => (by have := (hI.e52 h5).1; cases this), fun _ => rfl, fun _ => rfl, fun h5 => (by have := (hI.e52 h5).1; cases this), hI.e43⟩
  obtain ⟨c, hc, h1, h2, h3, h4⟩ := hI.p4 h4 h5
  exact ⟨c, hc, h1, by have := hg.size; omega, fun j z hz => hg.cell (h3 j z hz) (fun e => h4 rfl rfl e.symm), fun _ h => (by cases h)⟩
theorem step3 (hI : Two R W0 v L x w d0 d1 d2 false d4 d5 v8 v9 v10 v11 v12 v13) : Two R W0 v L x w d0 d1 d2 true d4 d5 v8 v9 v10 (.agg (R.cells x).toArray) v12 v13 :=
  ⟨hI.below, hI.p0, hI.p1, hI.p2, fun _ => rfl, hI.p4, hI.p5, hI.e20, hI.e21, hI.e52, fun _ => rfl⟩
theorem step4 (hI : Two R W0 v L x w d0 d1 d2 true false d5 v8 v9 v10 v11 v12 v13) : Two R W0 v L x (w.alloc (.cells (R.val x).cells R.ty)) d0 d1 d2 true true d5 v8 v9 v10 v11 (.slice (some ⟨w.heap.size, 0, none⟩) 1 1) v13 := by
  refine ⟨hI.below.alloc hI.below.size _, fun h0 h2 => (hI.p0 h0 h2).below ((Below.refl _ _).alloc (Nat.le_refl _) _), hI.p1, fun h2 h5 => (hI.p2 h2 h5).below ((Below.refl _ _).alloc (Nat.le_refl _) _), hI.p3, fun _ _ => ⟨_, rfl, hI.below.size, by simp, built_range x, fun h0 h2 e => ?_⟩, fun h5 => (by have := (hI.e52 h5).2; cases this), hI.e20, hI.e21, fun h5 => (by have := (hI.e52 h5).2; cases this), fun _ => rfl⟩
  have := ((hI.p0 h0 h2).lt _ e).2
  omega
theorem step5 (hI : Two R W0 v L x w d0 d1 true d3 true false v8 v9 v10 v11 v12 v13) {u' : Value} {w2 : World} (hO2 : Owns R W0.heap.size w2 u' (L ++ [x])) (hg : w.grownBy w2 v10.ownBlock) : Two R W0 v L x w2 d0 d1 true d3 true true v8 v9 v10 v11 v12 u' := by
  have hO := hI.p2 rfl rfl
  exact ⟨hI.below.grown hg hI.below.size (fun k hk => (hO.lt k hk).1), fun _ h => (by cases h), hI.p1, fun _ h => (by cases h), hI.p3, fun _ h => (by cases h), fun _ => hO2, hI.e20, hI.e21, fun _ => ⟨rfl, rfl⟩, hI.e43⟩
/-- x's own slice, as what is appended. -/
theorem one (hI : Two R W0 v L x w d0 d1 d2 d3 true false v8 v9 v10 v11 v12 v13) : Reads R w v12 [x] := by
  obtain ⟨c, hc, h1, h2, h3, _⟩ := hI.p4 rfl rfl
  exact .inr ⟨c, 0, 1, hc, fun i y hy => by
    cases i with
    | zero => simp at hy; subst hy; simpa using h3
    | succ i => simp at hy⟩
end Two
end Go.Proofs.Ytogajmbkjojdhaa
