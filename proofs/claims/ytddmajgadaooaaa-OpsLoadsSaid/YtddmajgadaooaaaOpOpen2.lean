/- Calls that came in: what the values are. -/
import Derived.Test.YtddmajgadaooaaaOpActs
import Derived.Test.YtddmajgadaooaaaOpOpen
set_option linter.unusedVariables false
set_option linter.unusedSimpArgs false
namespace Go.Proofs.Ytddmajgadaooaaa
open Go.ChangeShapes Go.WideShapes Go.ChangeAt Go.RowKit Go.Deep

theorem cellsAc : Try.prog.cellsOf 32 = 19 := by kernel_rfl
theorem ac_cells {H : Type} {enc : TypeId × Value → H} {W : World} {base fuel : Nat} {spare : Nat → Bool} {held : Bool} {cs : List Value} {x : DataW H × List MemPlace} (hl : cs.length = 19)
    (h : DataW.trod enc Try.prog W base spare held fuel 32 cs = some x) : ∃ y : Ac, cs = acR.cells y := by
  obtain ⟨ys, m, _, rfl, _, hl2, hf⟩ := DataW.trod_struct Try.underlying32 h
  match cs, hl with
  | [c0, c1, c2, c3, c4, c5, c6, c7, c8, c9, c10, c11, c12, c13, c14, c15, c16, c17, c18], _ =>
  match ys, hl2 with
  | [y0, y1], _ =>
  have hy0 := hf 0 _ rfl
  have hy1 := hf 1 _ rfl
  simp [cellsInt, cellsOp] at hy0 hy1
  obtain ⟨A, eA, -, -⟩ := DataW.trod_int Try.underlying3 hy0
  obtain ⟨y, hy⟩ := op_cells (by rfl) hy1
  simp at eA
  exact ⟨⟨A, y⟩, by rw [eA, hy]; rfl⟩
theorem openActs {H : Type} {enc : TypeId × Value → H} {W : World} {b0 base : Nat} {r : Reach} {spare : Nat → Bool} {held : Bool} {v : Value} {d : DataW H} {p : List MemPlace}
    (hv : Value.okWide Try.prog W r b0 22 v) (h : DataW.Trod enc Try.prog W base spare held 22 v d p) : ∃ L : List Ac, Reads acR W v L :=
  openRecs acOk cellsAc (fun hl h => ac_cells hl h) hv h
theorem openOps {H : Type} {enc : TypeId × Value → H} {W : World} {b0 base : Nat} {r : Reach} {spare : Nat → Bool} {held : Bool} {v : Value} {d : DataW H} {p : List MemPlace}
    (hv : Value.okWide Try.prog W r b0 34 v) (h : DataW.Trod enc Try.prog W base spare held 34 v d p) : ∃ L : List OpV, Reads opR W v L :=
  openRecs opOk cellsOp (fun hl h => op_cells hl h) hv h
end Go.Proofs.Ytddmajgadaooaaa
