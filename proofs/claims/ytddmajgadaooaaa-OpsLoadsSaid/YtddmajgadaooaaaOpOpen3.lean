/- Two numbers that came in: what the value is. -/
import Derived.Test.YtddmajgadaooaaaOpLoads
set_option linter.unusedVariables false
set_option linter.unusedSimpArgs false
namespace Go.Proofs.Ytddmajgadaooaaa
open Go.ChangeShapes Go.WideShapes Go.ChangeAt Go.RowKit Go.Deep

theorem cellsTwo : Try.prog.cellsOf 52 = 2 := by kernel_rfl
theorem two_cells {H : Type} {enc : TypeId × Value → H} {W : World} {base fuel : Nat} {spare : Nat → Bool} {held : Bool} {cs : List Value} {x : DataW H × List MemPlace}
    (h : DataW.trod enc Try.prog W base spare held fuel 52 cs = some x) : ∃ a b : Int, cs = [.int .i64 a, .int .i64 b] := by
  obtain ⟨xs, m, -, -, hl, hxl, hx⟩ := DataW.trod_array Try.underlying52 h
  rw [cellsTwo] at hl
  match cs, hl with
  | [c0, c1], _ =>
  match xs, hxl with
  | [x0, x1], _ =>
  have h0 := hx 0 (by decide)
  have h1 := hx 1 (by decide)
  simp [cellsInt] at h0 h1
  obtain ⟨A, eA, -, -⟩ := DataW.trod_int Try.underlying3 h0
  obtain ⟨B, eB, -, -⟩ := DataW.trod_int Try.underlying3 h1
  simp at eA eB
  exact ⟨A, B, by rw [eA, eB]⟩
theorem openTwo {H : Type} {enc : TypeId × Value → H} {W : World} {b0 base : Nat} {r : Reach} {spare : Nat → Bool} {held : Bool} {v : Value} {d : DataW H} {p : List MemPlace}
    (hv : Value.okWide Try.prog W r b0 52 v) (h : DataW.Trod enc Try.prog W base spare held 52 v d p) : ∃ a b : Int, v = .agg #[.int .i64 a, .int .i64 b] := by
  have hu := Try.underlying52
  simp only [Value.okWide, hu] at hv
  obtain ⟨cs, rfl, hsz, -⟩ := hv
  obtain ⟨fuel, hf⟩ := h
  obtain ⟨a, b, hcs⟩ := two_cells hf
  simp only [Value.cells] at hcs
  exact ⟨a, b, by rw [← hcs]⟩
end Go.Proofs.Ytddmajgadaooaaa
