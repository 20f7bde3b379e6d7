/- An item that came in: what the value is. -/
import Derived.Test.YtegkjbndnonneaaFifoNil
import Derived.OpenShut
import Derived.ProofKit
set_option linter.unusedVariables false
namespace Go.Proofs.Ytegkjbndnonneaa
open Go.ChangeShapes Go.WideShapes Go.ChangeAt Go.RowKit Go.Deep

theorem cellsI2 : Try.prog.cellsOf 3 = 1 := by kernel_rfl
theorem cellsIt : Try.prog.cellsOf 32 = 2 := by kernel_rfl
theorem it_cells {H : Type} {enc : TypeId × Value → H} {W : World} {base fuel : Nat} {spare : Nat → Bool} {held : Bool} {cs : List Value} {x : DataW H × List MemPlace} (hl : cs.length = 2)
    (h : DataW.trod enc Try.prog W base spare held fuel 32 cs = some x) : ∃ y : It, cs = itR.cells y := by
  obtain ⟨ys, m, _, rfl, _, hl2, hf⟩ := DataW.trod_struct Try.underlying32 h
  match cs, hl with
  | [a, b], _ =>
  match ys, hl2 with
  | [y0, y1], _ =>
  have hy0 := hf 0 _ rfl
  have hy1 := hf 1 _ rfl
  simp [cellsI2] at hy0 hy1
  obtain ⟨A, eA, -, -⟩ := DataW.trod_int Try.underlying3 hy0
  obtain ⟨E, eE, -, -⟩ := DataW.trod_int Try.underlying3 hy1
  simp at eA eE
  exact ⟨⟨A, E⟩, by rw [eA, eE]; rfl⟩
theorem openIt {H : Type} {enc : TypeId × Value → H} {W : World} {b0 base : Nat} {r : Reach} {spare : Nat → Bool} {held : Bool} {v : Value} {d : DataW H} {p : List MemPlace}
    (hv : Value.okWide Try.prog W r b0 32 v) (h : DataW.Trod enc Try.prog W base spare held 32 v d p) : ∃ y : It, v = .agg (itR.cells y).toArray := by
  obtain ⟨cs, rfl, hsz⟩ := okWide_struct Try.underlying32 hv
  obtain ⟨fuel, hf⟩ := h
  rw [cellsIt] at hsz
  obtain ⟨y, hcs⟩ := it_cells (by simpa [Value.cells] using hsz) hf
  simp only [Value.cells] at hcs
  exact ⟨y, by rw [← hcs]⟩

end Go.Proofs.Ytegkjbndnonneaa
