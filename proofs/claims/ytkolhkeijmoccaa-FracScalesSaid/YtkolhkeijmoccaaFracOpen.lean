/- Four numbers that came in: what the value is. And the walks of the statements. -/
import Derived.Test.YtkolhkeijmoccaaFracNear
import Derived.OpenShut
import Derived.ProofKit
set_option linter.unusedVariables false
namespace Go.Proofs.Ytkolhkeijmoccaa
open Go.ChangeShapes Go.WideShapes Go.ChangeAt Go.RowKit

theorem cells22 : Try.prog.cellsOf 22 = 1 := by kernel_rfl
theorem cells24 : Try.prog.cellsOf 24 = 4 := by kernel_rfl

theorem four_cells {H : Type} {enc : TypeId × Value → H} {W : World} {base fuel : Nat} {spare : Nat → Bool} {held : Bool} {cs : List Value} {x : DataW H × List MemPlace} (hl4 : cs.length = 4)
    (h : DataW.trod enc Try.prog W base spare held fuel 24 cs = some x) : ∃ A B C D : Int, cs = [.int .u64 A, .int .u64 B, .int .u64 C, .int .u64 D] ∧ ((Lit.int .u64 A).wf = true ∧ (Lit.int .u64 B).wf = true ∧ (Lit.int .u64 C).wf = true ∧ (Lit.int .u64 D).wf = true) := by
  obtain ⟨ys, m, _, rfl, _, hl, hf⟩ := DataW.trod_struct Try.underlying24 h
  match cs, hl4 with
  | [a, b, c, d], _ =>
  match ys, hl with
  | [y0, y1, y2, y3], _ =>
  have hy0 := hf 0 _ rfl
  have hy1 := hf 1 _ rfl
  have hy2 := hf 2 _ rfl
  have hy3 := hf 3 _ rfl
  simp [cells22] at hy0 hy1 hy2 hy3
  obtain ⟨A, eA, -, sA⟩ := DataW.trod_int Try.underlying22 hy0
  obtain ⟨B, eB, -, sB⟩ := DataW.trod_int Try.underlying22 hy1
  obtain ⟨C, eC, -, sC⟩ := DataW.trod_int Try.underlying22 hy2
  obtain ⟨D, eD, -, sD⟩ := DataW.trod_int Try.underlying22 hy3
  simp at eA eB eC eD
  exact ⟨A, B, C, D, by rw [eA, eB, eC, eD], sA, sB, sC, sD⟩

theorem openFour {H : Type} {enc : TypeId × Value → H} {W : World} {b0 base : Nat} {r : Reach} {spare : Nat → Bool} {held : Bool} {v : Value} {d : DataW H} {p : List MemPlace}
    (hv : Value.okWide Try.prog W r b0 24 v) (h : DataW.Trod enc Try.prog W base spare held 24 v d p) :
    ∃ A B C D : Int, v = .agg #[.int .u64 A, .int .u64 B, .int .u64 C, .int .u64 D] ∧ ((Lit.int .u64 A).wf = true ∧ (Lit.int .u64 B).wf = true ∧ (Lit.int .u64 C).wf = true ∧ (Lit.int .u64 D).wf = true) := by
  obtain ⟨cs, rfl, hsz⟩ := okWide_struct Try.underlying24 hv
  obtain ⟨fuel, hf⟩ := h
  rw [cells24] at hsz
  obtain ⟨A, B, C, D, hcs, hb⟩ := four_cells (by simpa [Value.cells] using hsz) hf
  simp only [Value.cells] at hcs
  exact ⟨A, B, C, D, by rw [show cs = cs.toList.toArray by simp, hcs], hb⟩

end Go.Proofs.Ytkolhkeijmoccaa
