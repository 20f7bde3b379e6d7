/- The page's example; nothing of none. -/
import Derived.Test.YtegkjbndnonneaaFifoAll
set_option linter.unusedVariables false
namespace Go.Proofs.Ytegkjbndnonneaa
open Go.RowKit

theorem wl_load_mid {ops : Array Oper} {rest : List Oper} {op : Oper} {a : Act} {w : World} {Q : Exit → Act → World → Prop} (hw : Region.wanted op (yielded ops a.tmps) = true) (ty : TypeId) (x : Operand) (ho : op.op = .load ty x)
    (b o : Nat) (hx : a.eval x = .pointer (some ⟨b, o, none⟩)) (cs : List Value) (d : TypeDesc) (hc : w.rangeAt b o cs)
    (hu : Try.prog.underlying ty = some d) (hd : d.isRow = true) (hi : (Try.prog.info? ty).map (·.size) = some cs.length)
    (h : wpList Try.prog ops Q rest (a.put op.dst (.agg cs.toArray)) w) : wpList Try.prog ops Q (op :: rest) a w :=
  BigFrame.wpList_want hw fun _ hK => wp_load_mid ty x ho b o hx cs d hc hu hd hi (hK _ _ h)

set_option maxRecDepth 100000 in
set_option maxHeartbeats 4000000 in
theorem live14_any (w : World) : Calls Try.prog 5 #[] w fun e w' => e = .returned (.bool true) ∧ Below w.heap.size w w' := by
  go_enter Try.func5, Try.ntmps5
  go_upto_region 2 with (go_at_call 6; refine (newQ_any w).mono ?_; rintro e W1 ⟨p, m, rfl, hb1, hQ1⟩)
  have hs1 := hb1.size
  have K1 := Lib.hid (push_yes W1 w.heap.size p m [] hQ1 ⟨1, 5⟩ (by simp [its]) (by decide) hs1 (by simp))
  go_upto_region 3 with (first
    | (go_at_call 9; refine (push_yes W2 w.heap.size p m [(g1, ⟨1, 5⟩)] hQ2 ⟨2, 3⟩ (by simp [its]) (by decide) hs2 (by simp)).mono ?_; rintro e W3 ⟨rfl, g2, hg2, hU3, hQ3⟩)
    | (go_at_call 9; refine K1.out.mono ?_; rintro e W2 ⟨rfl, g1, hg1, hU2, hQ2⟩; have hs2 := Nat.le_trans hs1 hU2.size; replace hQ2 : Qu w.heap.size W2 p m [(g1, ⟨1, 5⟩)] := hQ2))
  replace hQ3 : Qu w.heap.size W3 p m [(g1, ⟨1, 5⟩), (g2, ⟨2, 3⟩)] := hQ3
  have hB1 : ∀ i ∈ qF p m [], w.heap.size ≤ i := fun i hi => (hQ1.low i hi).1
  have hB2 : ∀ i ∈ qF p m [(g1, ⟨1, 5⟩)], w.heap.size ≤ i := fun i hi => (hQ2.low i hi).1
  have hB3 : ∀ i ∈ qF p m [(g1, ⟨1, 5⟩), (g2, ⟨2, 3⟩)], w.heap.size ≤ i := fun i hi => (hQ3.low i hi).1
  have hW3 := Lib.hid (hU3.toBelow (hU2.toBelow hb1 hs1 hB1) hs2 hB2)
  have hs3 := Nat.le_trans hs2 hU3.size
  have K3 := Lib.hid (drop_yes W3 w.heap.size p m _ hQ3 0 g1 ⟨1, 5⟩ rfl (by simp))
  clear hQ1 hQ2 hQ3 hU2 hU3 hB1 hB2 K1 hb1
  go_upto_region 4 with (first
    | (go_at_call 11; refine K3.out.mono ?_; rintro e W4 ⟨rfl, hU4, hQ4⟩; replace hQ4 : Qu w.heap.size W4 p m [(g2, ⟨2, 3⟩)] := hQ4)
    | (refine wpList_store_mid rfl 32 _ _ rfl W4.heap.size 0 (itR.cells ⟨1, 5⟩).toArray rfl rfl (freshR_there itOk W4 ⟨1, 5⟩) (itOk.row' ⟨1, 5⟩) (itOk.one' ⟨1, 5⟩) ?_; show wpList _ _ _ _ _ (freshR itR W4 ⟨1, 5⟩); have hx5 := freshR_range itOk W4 ⟨1, 5⟩; have hb5 := freshR_below (R := itR) W4 ⟨1, 5⟩; generalize freshR itR W4 ⟨1, 5⟩ = W5 at hx5 hb5 ⊢))
  have hW4 := hU4.toBelow hW3.out hs3 hB3
  have hW5 := Lib.hid (bthen' hW4 hb5)
  have K5 := Lib.hid (head_some W5 w.heap.size p m g2 ⟨2, 3⟩ [] (hQ4.below hb5))
  clear hQ4 hU4 K3 hB3 hW4
  go_upto_region 5 with (first
    | (go_at_call 14; refine K5.out.mono ?_; rintro e W6 ⟨rfl, hb6⟩)
    | (refine wpList_store_mid rfl 32 _ _ rfl W6.heap.size 0 (itR.cells ⟨2, 3⟩).toArray rfl rfl (freshR_there itOk W6 ⟨2, 3⟩) (itOk.row' ⟨2, 3⟩) (itOk.one' ⟨2, 3⟩) ?_; show wpList _ _ _ _ _ (freshR itR W6 ⟨2, 3⟩); have hx7 := freshR_range itOk W6 ⟨2, 3⟩; have hb7 := freshR_below (R := itR) W6 ⟨2, 3⟩; generalize freshR itR W6 ⟨2, 3⟩ = W7 at hx7 hb7 ⊢))
  obtain ⟨n0, n1⟩ := two_cells (below_range hb7 (below_range hb6 hx5))
  have hW7 := bthen' (bthen' hW5.out hb6) hb7
  have hsame : ∀ w : World, (Op.equalIn (9998 + 2) 32 (.agg (itR.cells ⟨2, 3⟩).toArray) (.agg #[.int .i64 2, .int .i64 3])).run Try.prog w = .ok true w := fun w => it_eq 9998 ⟨2, 3⟩ ⟨2, 3⟩ w
  have hguard := itGuard
  clear hx5 K5
  go_wp2_with (first
    | (go_at_call 8; refine (num14_any _ _).mono ?_; rintro e w' ⟨rfl, rfl⟩)
    | (refine wl_load_mid rfl 32 _ rfl W6.heap.size 0 rfl (itR.cells ⟨2, 3⟩) _ hx7 Try.underlying32 rfl (itOk.row ⟨2, 3⟩) ?_))
  go_ret
  exact ⟨rfl, hW7⟩

end Go.Proofs.Ytegkjbndnonneaa
