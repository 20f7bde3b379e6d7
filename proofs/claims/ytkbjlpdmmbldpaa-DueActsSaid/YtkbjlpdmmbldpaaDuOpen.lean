/- Timers and calls that came in: what the values are. -/
import Derived.Test.YtkbjlpdmmbldpaaDuNilA
import Derived.OpenShut
import Derived.Deep.Slices
import Derived.ProofKit
set_option linter.unusedVariables false
set_option linter.unusedSimpArgs false
set_option maxRecDepth 100000
namespace Go.Proofs.Ytkbjlpdmmbldpaa
open Go.ChangeShapes Go.WideShapes Go.ChangeAt Go.RowKit Go.Deep

theorem cellsT : Try.prog.cellsOf 54 = 3 := by kernel_rfl
theorem tm_cells {H : Type} {enc : TypeId × Value → H} {W : World} {base fuel : Nat} {spare : Nat → Bool} {held : Bool} {cs : List Value} {x : DataW H × List MemPlace} (hl : cs.length = 3)
    (h : DataW.trod enc Try.prog W base spare held fuel 54 cs = some x) : ∃ y : Tm, cs = timR.cells y ∧ y.t < 18446744073709551616 := by
  obtain ⟨ys, m, _, rfl, _, hl2, hf⟩ := DataW.trod_struct Try.underlying54 h
  match cs, hl with
  | [a, b, c], _ =>
  match ys, hl2 with
  | [y0, y1, y2], _ =>
  have hy0 := hf 0 _ rfl
  have hy1 := hf 1 _ rfl
  have hy2 := hf 2 _ rfl
  simp [cellsI, cellsU] at hy0 hy1 hy2
  obtain ⟨A, eA, -, -⟩ := DataW.trod_int Try.underlying3 hy0
  obtain ⟨B, eB, -, -⟩ := DataW.trod_int Try.underlying3 hy1
  obtain ⟨C, eC, -, hw⟩ := DataW.trod_int Try.underlying22 hy2
  simp at eA eB eC
  obtain ⟨n, rfl, hn⟩ := natOf hw
  exact ⟨⟨A, B, n⟩, by rw [eA, eB, eC]; rfl, hn⟩
theorem openTim {H : Type} {enc : TypeId × Value → H} {W : World} {b0 base : Nat} {r : Reach} {spare : Nat → Bool} {held : Bool} {v : Value} {d : DataW H} {p : List MemPlace}
    (hv : Value.okWide Try.prog W r b0 54 v) (h : DataW.Trod enc Try.prog W base spare held 54 v d p) : ∃ y : Tm, v = timR.val y := by
  obtain ⟨cs, rfl, hsz⟩ := okWide_struct Try.underlying54 hv
  obtain ⟨fuel, hf⟩ := h
  rw [cellsT] at hsz
  obtain ⟨y, hcs, -⟩ := tm_cells (by simpa [Value.cells] using hsz) hf
  simp only [Value.cells] at hcs
  refine ⟨y, ?_⟩
  show Value.agg cs = .agg #[.int .i64 y.k, .int .i64 y.id, .int .u64 (y.t : Int)]
  have : cs = (timR.cells y).toArray := by rw [← hcs]
  rw [this]
  rfl
theorem openTims {H : Type} {enc : TypeId × Value → H} {W : World} {b0 base : Nat} {r : Reach} {spare : Nat → Bool} {held : Bool} {v : Value} {d : DataW H} {p : List MemPlace}
    (hv : Value.okWide Try.prog W r b0 29 v) (h : DataW.Trod enc Try.prog W base spare held 29 v d p) : ∃ L : List Tm, Reads timR W v L ∧ ∀ a ∈ L, a.t < 18446744073709551616 := by
  obtain ⟨a0, len0, cap0, rfl⟩ := okWide_slice timOk.slice hv
  obtain ⟨fuel, hf⟩ := h
  obtain ⟨v', L, he, hr, hp⟩ := openRecsP timOk (fun a => a.t < 18446744073709551616) cellsT (fun hl h => tm_cells hl h) hf
  simp [Value.cells] at he
  subst he
  exact ⟨L, hr, hp⟩
/-- A call. -/
structure Dc where
  d : Int
  k : Int
  id : Int
  t : Nat
def dcR : Rec Dc := ⟨66, 60, 4, 32, fun x => .agg #[.int .i64 x.d, .int .i64 x.k, .int .i64 x.id, .int .u64 (x.t : Int)], ⟨0, 0, 0, 0⟩⟩
theorem dcOk : dcR.Ok where
  pos := by decide
  small := by decide
  bsmall := by decide
  len := fun _ => rfl
  one := by intro x v hv; simp [Rec.cells, dcR, Value.cells] at hv; rcases hv with rfl | rfl | rfl | rfl <;> rfl
  slice := Try.underlying60
  info := ⟨_, rfl, rfl, rfl, rfl⟩
  fill := by
    intro y
    rw [show ((Array.range (1 * dcR.n)).map (fun x => (dcR.val dcR.zero).cells[x % (dcR.val dcR.zero).cells.size]!)) = #[.int .i64 0, .int .i64 0, .int .i64 0, .int .u64 0] from by apply Array.toList_inj.1; rw [Array.toList_map, Array.toList_range]; rfl]
    obtain ⟨d, k, id, t⟩ := y
    kernel_rfl
theorem dc_parts {w : World} {b o : Nat} {a : Dc} (h : w.rangeAt b o (dcR.cells a)) : w.cell? ⟨b, o, none⟩ = some (.int .i64 a.d) ∧ w.cell? ⟨b, o + 1, none⟩ = some (.int .i64 a.k) ∧ w.cell? ⟨b, o + 2, none⟩ = some (.int .i64 a.id) ∧ w.cell? ⟨b, o + 3, none⟩ = some (.int .u64 (a.t : Int)) :=
  ⟨by simpa using h 0 _ rfl, by simpa using h 1 _ rfl, by simpa using h 2 _ rfl, by simpa using h 3 _ rfl⟩
theorem cellsDc : Try.prog.cellsOf 66 = 4 := by kernel_rfl
theorem dc_cells {H : Type} {enc : TypeId × Value → H} {W : World} {base fuel : Nat} {spare : Nat → Bool} {held : Bool} {cs : List Value} {x : DataW H × List MemPlace} (hl : cs.length = 4)
    (h : DataW.trod enc Try.prog W base spare held fuel 66 cs = some x) : ∃ y : Dc, cs = dcR.cells y ∧ y.t < 18446744073709551616 := by
  obtain ⟨ys, m, _, rfl, _, hl2, hf⟩ := DataW.trod_struct Try.underlying66 h
  match cs, hl with
  | [a, b, c, e], _ =>
  match ys, hl2 with
  | [y0, y1, y2, y3], _ =>
  have hy0 := hf 0 _ rfl
  have hy1 := hf 1 _ rfl
  have hy2 := hf 2 _ rfl
  have hy3 := hf 3 _ rfl
  simp [cellsI, cellsU] at hy0 hy1 hy2 hy3
  obtain ⟨A, eA, -, -⟩ := DataW.trod_int Try.underlying3 hy0
  obtain ⟨B, eB, -, -⟩ := DataW.trod_int Try.underlying3 hy1
  obtain ⟨C, eC, -, -⟩ := DataW.trod_int Try.underlying3 hy2
  obtain ⟨E, eE, -, hw⟩ := DataW.trod_int Try.underlying22 hy3
  simp at eA eB eC eE
  obtain ⟨n, rfl, hn⟩ := natOf hw
  exact ⟨⟨A, B, C, n⟩, by rw [eA, eB, eC, eE]; rfl, hn⟩
theorem openDcs {H : Type} {enc : TypeId × Value → H} {W : World} {b0 base : Nat} {r : Reach} {spare : Nat → Bool} {held : Bool} {v : Value} {d : DataW H} {p : List MemPlace}
    (hv : Value.okWide Try.prog W r b0 60 v) (h : DataW.Trod enc Try.prog W base spare held 60 v d p) : ∃ L : List Dc, Reads dcR W v L ∧ ∀ a ∈ L, a.t < 18446744073709551616 := by
  obtain ⟨a0, len0, cap0, rfl⟩ := okWide_slice dcOk.slice hv
  obtain ⟨fuel, hf⟩ := h
  obtain ⟨v', L, he, hr, hp⟩ := openRecsP dcOk (fun a => a.t < 18446744073709551616) cellsDc (fun hl h => dc_cells hl h) hf
  simp [Value.cells] at he
  subst he
  exact ⟨L, hr, hp⟩
theorem dueNil_of (W : World) (x : Tm) : Calls Try.prog 8 #[timR.val x] W fun e w' => e = .returned (.bool true) ∧ Below W.heap.size W w' := dueNil_any W x
end Go.Proofs.Ytkbjlpdmmbldpaa
