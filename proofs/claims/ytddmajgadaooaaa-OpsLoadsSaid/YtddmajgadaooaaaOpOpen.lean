/- Operations that came in: what the values are. (Printed by genopopen.py.) -/
import Derived.Test.YtddmajgadaooaaaOpNil
import Derived.OpenShut
import Derived.Deep.Slices
import Derived.ProofKit
set_option linter.unusedVariables false
set_option linter.unusedSimpArgs false
namespace Go.Proofs.Ytddmajgadaooaaa
open Go.ChangeShapes Go.WideShapes Go.ChangeAt Go.RowKit Go.Deep

theorem cellsInt : Try.prog.cellsOf 3 = 1 := by kernel_rfl
theorem cellsStr : Try.prog.cellsOf 9 = 1 := by kernel_rfl
theorem cellsU : Try.prog.cellsOf 28 = 1 := by kernel_rfl
theorem cellsAcn : Try.prog.cellsOf 27 = 3 := by kernel_rfl
theorem cellsOp : Try.prog.cellsOf 30 = 18 := by kernel_rfl
theorem acn_cells {H : Type} {enc : TypeId × Value → H} {W : World} {base fuel : Nat} {spare : Nat → Bool} {held : Bool} {cs : List Value} {x : DataW H × List MemPlace} (hl : cs.length = 3)
    (h : DataW.trod enc Try.prog W base spare held fuel 27 cs = some x) : ∃ A B C, cs = [.string A, .string B, .string C] := by
  obtain ⟨ys, m, _, rfl, _, hl2, hf⟩ := DataW.trod_struct Try.underlying27 h
  match cs, hl with
  | [a, b, c], _ =>
  match ys, hl2 with
  | [y0, y1, y2], _ =>
  have hy0 := hf 0 _ rfl
  have hy1 := hf 1 _ rfl
  have hy2 := hf 2 _ rfl
  simp [cellsStr] at hy0 hy1 hy2
  obtain ⟨A, eA, -, -⟩ := DataW.trod_string Try.underlying9 hy0
  obtain ⟨B, eB, -, -⟩ := DataW.trod_string Try.underlying9 hy1
  obtain ⟨C, eC, -, -⟩ := DataW.trod_string Try.underlying9 hy2
  simp at eA eB eC
  exact ⟨A, B, C, by rw [eA, eB, eC]⟩
set_option maxHeartbeats 2000000 in
theorem op_cells {H : Type} {enc : TypeId × Value → H} {W : World} {base fuel : Nat} {spare : Nat → Bool} {held : Bool} {cs : List Value} {x : DataW H × List MemPlace} (hl : cs.length = 18)
    (h : DataW.trod enc Try.prog W base spare held fuel 30 cs = some x) : ∃ y : OpV, cs = y.cells := by
  obtain ⟨ys, m, _, rfl, _, hl2, hf⟩ := DataW.trod_struct Try.underlying30 h
  match cs, hl with
  | [c0, c1, c2, c3, c4, c5, c6, c7, c8, c9, c10, c11, c12, c13, c14, c15, c16, c17], _ =>
  match ys, hl2 with
  | [y0, y1, y2, y3, y4, y5, y6, y7, y8, y9, y10, y11, y12, y13, y14, y15], _ =>
  have hy0 := hf 0 _ rfl
  have hy1 := hf 1 _ rfl
  have hy2 := hf 2 _ rfl
  have hy3 := hf 3 _ rfl
  have hy4 := hf 4 _ rfl
  have hy5 := hf 5 _ rfl
  have hy6 := hf 6 _ rfl
  have hy7 := hf 7 _ rfl
  have hy8 := hf 8 _ rfl
  have hy9 := hf 9 _ rfl
  have hy10 := hf 10 _ rfl
  have hy11 := hf 11 _ rfl
  have hy12 := hf 12 _ rfl
  have hy13 := hf 13 _ rfl
  have hy14 := hf 14 _ rfl
  have hy15 := hf 15 _ rfl
  simp [cellsInt, cellsU, cellsAcn] at hy0
  simp [cellsInt, cellsU, cellsAcn] at hy1
  simp [cellsInt, cellsU, cellsAcn] at hy2
  simp [cellsInt, cellsU, cellsAcn] at hy3
  simp [cellsInt, cellsU, cellsAcn] at hy4
  simp [cellsInt, cellsU, cellsAcn] at hy5
  simp [cellsInt, cellsU, cellsAcn] at hy6
  simp [cellsInt, cellsU, cellsAcn] at hy7
  simp [cellsInt, cellsU, cellsAcn] at hy8
  simp [cellsInt, cellsU, cellsAcn] at hy9
  simp [cellsInt, cellsU, cellsAcn] at hy10
  simp [cellsInt, cellsU, cellsAcn] at hy11
  simp [cellsInt, cellsU, cellsAcn] at hy12
  simp [cellsInt, cellsU, cellsAcn] at hy13
  simp [cellsInt, cellsU, cellsAcn] at hy14
  simp [cellsInt, cellsU, cellsAcn] at hy15
  obtain ⟨B0, f0, -, -⟩ := DataW.trod_int Try.underlying3 hy0
  obtain ⟨B1, f1, -, -⟩ := DataW.trod_int Try.underlying3 hy1
  obtain ⟨B2, f2, -, -⟩ := DataW.trod_int Try.underlying3 hy2
  obtain ⟨A3, A4, A5, e3⟩ := acn_cells (by rfl) hy3
  obtain ⟨B6, f6, -, -⟩ := DataW.trod_int Try.underlying3 hy4
  obtain ⟨B7, f7, -, -⟩ := DataW.trod_int Try.underlying3 hy5
  obtain ⟨B8, f8, -, -⟩ := DataW.trod_int Try.underlying3 hy6
  obtain ⟨B9, f9, -, -⟩ := DataW.trod_int Try.underlying3 hy7
  obtain ⟨B10, f10, -, -⟩ := DataW.trod_int Try.underlying3 hy8
  obtain ⟨B11, f11, -, -⟩ := DataW.trod_int Try.underlying3 hy9
  obtain ⟨B12, f12, -, -⟩ := DataW.trod_int Try.underlying3 hy10
  obtain ⟨B13, f13, -, -⟩ := DataW.trod_int Try.underlying3 hy11
  obtain ⟨B14, f14, -, -⟩ := DataW.trod_int Try.underlying3 hy12
  obtain ⟨B15, f15, -, -⟩ := DataW.trod_int Try.underlying28 hy13
  obtain ⟨B16, f16, -, -⟩ := DataW.trod_int Try.underlying28 hy14
  obtain ⟨B17, f17, -, -⟩ := DataW.trod_int Try.underlying28 hy15
  simp at e3 f0 f1 f2 f6 f7 f8 f9 f10 f11 f12 f13 f14 f15 f16 f17
  obtain ⟨e3, e4, e5⟩ := e3
  exact ⟨⟨B0, B1, B2, A3, A4, A5, B6, B7, B8, B9, B10, B11, B12, B13, B14, B15, B16, B17⟩, by rw [f0, f1, f2, e3, e4, e5, f6, f7, f8, f9, f10, f11, f12, f13, f14, f15, f16, f17]; rfl⟩
theorem openOp {H : Type} {enc : TypeId × Value → H} {W : World} {b0 base : Nat} {r : Reach} {spare : Nat → Bool} {held : Bool} {v : Value} {d : DataW H} {p : List MemPlace}
    (hv : Value.okWide Try.prog W r b0 30 v) (h : DataW.Trod enc Try.prog W base spare held 30 v d p) : ∃ y : OpV, v = .agg y.cells.toArray := by
  obtain ⟨cs, rfl, hsz⟩ := okWide_struct Try.underlying30 hv
  obtain ⟨fuel, hf⟩ := h
  rw [cellsOp] at hsz
  obtain ⟨y, hcs⟩ := op_cells (by simpa [Value.cells] using hsz) hf
  simp only [Value.cells] at hcs
  exact ⟨y, by rw [← hcs]⟩
theorem opsNil_of (W : World) (o : OpV) : Calls Try.prog 5 #[.agg o.cells.toArray] W fun e w' => e = .returned (.bool true) ∧ Below W.heap.size W w' := opsNil_any W o
end Go.Proofs.Ytddmajgadaooaaa
