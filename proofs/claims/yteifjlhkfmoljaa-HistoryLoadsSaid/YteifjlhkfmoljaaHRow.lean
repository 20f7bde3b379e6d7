/- Rows of histograms in memory; the document's table: Hist. -/
import Derived.Test.YteifjlhkfmoljaaHLive
set_option linter.unusedVariables false
namespace Go.Proofs.Yteifjlhkfmoljaa
open Go.RowKit

def rowC (p : Rw) : List Value := .string p.1 :: vh p.2
theorem rowC_length (p : Rw) : (rowC p).length = 17 := by simp [rowC, vh_length]
def rowR : Rec Rw := ⟨61, 37, 17, 144, fun p => .agg (rowC p).toArray, (⟨#[]⟩, noH)⟩
theorem rowR_cells (p : Rw) : rowR.cells p = rowC p := rfl
set_option maxRecDepth 100000 in
theorem row_fill16 (k : ByteArray) (x0 x1 x2 x3 x4 x5 x6 x7 x8 x9 x10 x11 x12 x13 x14 x15 : Int) : Instr.fill (fun i => some (i * 17, 17)) (rowC (⟨#[]⟩, noH)).toArray [(0, .agg #[.string k, .int .i64 x0, .int .i64 x1, .int .i64 x2, .int .i64 x3, .int .i64 x4, .int .i64 x5, .int .i64 x6, .int .i64 x7, .int .i64 x8, .int .i64 x9, .int .i64 x10, .int .i64 x11, .int .i64 x12, .int .i64 x13, .int .i64 x14, .int .i64 x15])] = some #[.string k, .int .i64 x0, .int .i64 x1, .int .i64 x2, .int .i64 x3, .int .i64 x4, .int .i64 x5, .int .i64 x6, .int .i64 x7, .int .i64 x8, .int .i64 x9, .int .i64 x10, .int .i64 x11, .int .i64 x12, .int .i64 x13, .int .i64 x14, .int .i64 x15] := by kernel_rfl
set_option maxRecDepth 100000 in
theorem row_built16 (k : ByteArray) (x0 x1 x2 x3 x4 x5 x6 x7 x8 x9 x10 x11 x12 x13 x14 x15 : Int) : Try.prog.built 61 [(0, .string k), (1, .agg #[.int .i64 x0, .int .i64 x1, .int .i64 x2, .int .i64 x3, .int .i64 x4, .int .i64 x5, .int .i64 x6, .int .i64 x7, .int .i64 x8, .int .i64 x9, .int .i64 x10, .int .i64 x11, .int .i64 x12, .int .i64 x13, .int .i64 x14, .int .i64 x15])] = some #[.string k, .int .i64 x0, .int .i64 x1, .int .i64 x2, .int .i64 x3, .int .i64 x4, .int .i64 x5, .int .i64 x6, .int .i64 x7, .int .i64 x8, .int .i64 x9, .int .i64 x10, .int .i64 x11, .int .i64 x12, .int .i64 x13, .int .i64 x14, .int .i64 x15] := by kernel_rfl
set_option maxRecDepth 100000 in
theorem row_built (k : ByteArray) (v : Hs) : Try.prog.built 61 [(0, .string k), (1, hV v)] = some (rowC (k, v)).toArray := by
  obtain ⟨l, hl⟩ := v
  match l, hl with
  | [x0, x1, x2, x3, x4, x5, x6, x7, x8, x9, x10, x11, x12, x13, x14, x15], _ => exact row_built16 k x0 x1 x2 x3 x4 x5 x6 x7 x8 x9 x10 x11 x12 x13 x14 x15
set_option maxRecDepth 100000 in
theorem rowOk : rowR.Ok where
  pos := by decide
  small := by decide
  bsmall := by decide
  len := fun p => by show (rowC p).toArray.size = 17; rw [List.size_toArray, rowC_length]
  one := by
    intro x v hv
    rw [rowR_cells] at hv
    unfold rowC vh at hv
    rcases List.mem_cons.1 hv with rfl | hv
    · rfl
    · obtain ⟨n, _, rfl⟩ := List.mem_map.1 hv
      rfl
  slice := Try.underlying37
  info := ⟨_, rfl, rfl, rfl, rfl⟩
  fill := by
    intro y
    rw [show ((Array.range (1 * rowR.n)).map (fun x => (rowR.val rowR.zero).cells[x % (rowR.val rowR.zero).cells.size]!)) = (rowC (⟨#[]⟩, noH)).toArray from by apply Array.toList_inj.1; rw [Array.toList_map, Array.toList_range]; rfl]
    obtain ⟨k, l, hl⟩ := y
    match l, hl with
    | [x0, x1, x2, x3, x4, x5, x6, x7, x8, x9, x10, x11, x12, x13, x14, x15], _ => exact row_fill16 k x0 x1 x2 x3 x4 x5 x6 x7 x8 x9 x10 x11 x12 x13 x14 x15
theorem row_parts {w : World} {b o : Nat} {p : Rw} (h : w.rangeAt b o (rowR.cells p)) : w.cell? ⟨b, o, none⟩ = some (.string p.1) ∧ w.rangeAt b (o + 1) (vh p.2) :=
  ⟨by simpa using h 0 _ rfl, fun j v hv => by rw [Nat.add_assoc]; exact h (1 + j) v (by rw [rowR_cells, Nat.add_comm]; exact hv)⟩
end Go.Proofs.Yteifjlhkfmoljaa
