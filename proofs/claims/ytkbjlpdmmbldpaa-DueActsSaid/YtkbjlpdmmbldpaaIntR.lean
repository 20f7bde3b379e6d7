/- Numbers as records; slices.Clone at ints. -/
import Derived.Test.YtkbjlpdmmbldpaaRecM
import Derived.Laws.CopyRow
import Derived.Test.YtkbjlpdmmbldpaaShelf
set_option linter.unusedVariables false
set_option maxRecDepth 100000
namespace Go.Proofs.Ytkbjlpdmmbldpaa
open Go.RowKit

def intR : Rec Int := ⟨3, 74, 1, 8, fun n => .int .i64 n, 0⟩
theorem intOk : intR.Ok where
  pos := by decide
  small := by decide
  bsmall := by decide
  len := fun _ => rfl
  one := by intro x v hv; simp [Rec.cells, intR, Value.cells] at hv; subst hv; rfl
  slice := Try.underlying74
  info := ⟨_, rfl, rfl, rfl, rfl⟩
  fill := by
    intro y
    rw [show ((Array.range (1 * intR.n)).map (fun x => (intR.val intR.zero).cells[x % (intR.val intR.zero).cells.size]!)) = #[.int .i64 0] from by apply Array.toList_inj.1; rw [Array.toList_map, Array.toList_range]; rfl]
    simp [Instr.fill, Value.cells, intR]
theorem int_cell {w : World} {b off k : Nat} {x : Int} (h : w.rangeAt b (off + k * intR.n) (intR.cells x)) : w.cell? ⟨b, off + k, none⟩ = some (.int .i64 x) := by have := h 0 _ rfl; simpa [intR] using this
theorem int_flat (L : List Int) : L.flatMap intR.cells = L.map (.int .i64) := by
  induction L with
  | nil => rfl
  | cons x L ih => rw [List.flatMap_cons, ih]; rfl

/-- A list in new memory is handed back. -/
def GivesI (w : World) (L : List Int) (e : Ending) (w' : World) : Prop := ∃ v, e = .returned v ∧ Below w.heap.size w w' ∧ Owns intR w.heap.size w' v L

theorem clone_any (w : World) (v : Value) (L : List Int) (hv : Reads intR w v L) (hbig : L.length ≤ 100000) :
    Calls Try.prog 42 #[v] w (GivesI w L) := by
  rcases hv with ⟨rfl, a, cap, rfl⟩ | ⟨b, off, cap, rfl, hr⟩
  · cases a with
    | none =>
      refine (Try.slices_Clone_int_nil 0 cap w).mono ?_
      rintro e w' ⟨rfl, rfl⟩
      exact ⟨_, rfl, Below.refl _ _, Owns.nil _ _ _⟩
    | some a =>
      refine (Try.slices_Clone_int_zero a cap w).mono ?_
      rintro e w' ⟨v', rfl, ho, -, hb⟩
      exact ⟨v', rfl, hb, ho⟩
  · refine (Try.slices_Clone_int b off L.length cap L w (Nat.le_refl _) (by omega) (fun j hj => ?_)).mono ?_
    · rw [int_cell (hr j _ (List.getElem?_eq_getElem hj))]
      simp [List.getD, hj]
    · rintro e w' ⟨v', rfl, ho, -, hb⟩
      refine ⟨v', rfl, hb, ?_⟩
      rw [List.take_length, ← int_flat] at ho
      exact ho

end Go.Proofs.Ytkbjlpdmmbldpaa
