/- Blocks whose cells are known and may be written. Of no program. -/
import Derived.Test.YtogajmbkjojdhaaUpd
set_option linter.unusedVariables false
namespace Go.Proofs.Ytogajmbkjojdhaa
open Go.RowKit

/-- The first cells of a block, none of them frozen. -/
def Cel (w : World) (b : Nat) (vs : List Value) : Prop := ∀ i v, vs[i]? = some v → w.cell? ⟨b, i, none⟩ = some v ∧ w.frozen? ⟨b, i, none⟩ = false
namespace Cel
variable {w w' : World} {b : Nat} {vs : List Value}
theorem get (h : Cel w b vs) {i : Nat} {v : Value} (hv : vs[i]? = some v) : w.cell? ⟨b, i, none⟩ = some v := (h i v hv).1
theorem free (h : Cel w b vs) {i : Nat} {v : Value} (hv : vs[i]? = some v) : w.frozen? ⟨b, i, none⟩ = false := (h i v hv).2
theorem upd {F : List Nat} (h : Cel w b vs) (hu : Upd F w w') (hb : b ∉ F) : Cel w' b vs := fun i v hv =>
  ⟨hu.cell hb (h i v hv).1, (hu.frozen hb (h i v hv).1).trans (h i v hv).2⟩
theorem below (h : Cel w b vs) (hu : Below w.heap.size w w') : Cel w' b vs := h.upd (Upd.ofBelow [] hu) (by simp)
theorem lt (h : Cel w b vs) (h0 : vs ≠ []) : b < w.heap.size := by
  obtain ⟨v, hv⟩ : ∃ v, vs[0]? = some v := ⟨_, List.getElem?_eq_getElem (List.length_pos_iff.2 h0)⟩
  exact World.block_lt_of_cell? w _ (h.get hv)
theorem far (h : Cel w b vs) {p : Addr} (hp : b ≠ p.block) (v : Value) : Cel (w.setCell p v) b vs :=
  h.upd (F := [p.block]) ((Upd.refl _ _).setCell (by simp) v) (by simpa using hp)
theorem set (h : Cel w b vs) (i : Nat) (v : Value) : Cel (w.setCell ⟨b, i, none⟩ v) b (vs.set i v) := fun j u hu => by
  rw [World.frozen?_setCell]
  by_cases e : i = j
  · subst e
    rw [List.getElem?_set_self'] at hu
    cases hi : vs[i]? with
    | none => rw [hi] at hu; cases hu
    | some x =>
      rw [hi] at hu
      obtain rfl : u = v := by simpa using hu.symm
      exact ⟨by rw [World.cell?_setCell_same _ _ _ (h i x hi).1], (h i x hi).2⟩
  · rw [List.getElem?_set_ne e] at hu
    exact ⟨by rw [World.cell?_setCell_other _ _ _ _ (by simp)]; exact (h j u hu).1, (h j u hu).2⟩
theorem new (w : World) (t : TypeId) (vs : List Value) : Cel (w.alloc (.cells vs.toArray t)) w.heap.size vs := fun i v hv => by
  have h := heap_alloc_new w (.cells vs.toArray t)
  refine ⟨?_, by unfold World.frozen?; simp only [h]; simp⟩
  rw [cell_of_row _ w.heap.size i _ t (0, 0) h]
  simpa using hv
theorem range (h : Cel w b vs) : w.rangeAt b 0 vs := fun j v hv => by rw [Nat.zero_add]; exact h.get hv
theorem there (h : Cel w b vs) : w.there b 0 vs.length := fun j hj => by
  have := h j _ (List.getElem?_eq_getElem hj)
  rw [Nat.zero_add]
  exact ⟨by rw [this.1]; rfl, this.2⟩
/-- A part of a block is written. -/
theorem sets (h : Cel w b vs) : ∀ (us : List Value) (o : Nat), Cel (w.setCells b o us) b ((vs.take o) ++ us.take (vs.length - o) ++ vs.drop (o + us.length)) := by
  intro us
  induction us generalizing w vs with
  | nil => intro o; simpa [World.setCells] using h
  | cons u r ih =>
    intro o
    have h1 := h.set o u
    have h2 := ih h1 (o + 1)
    rw [World.setCells]
    refine (fun i v hv => h2 i v ?_)
    rw [← hv]
    clear h h1 h2 ih hv
    by_cases ho : o < vs.length
    · have e1 : (vs.set o u).take (o + 1) = vs.take o ++ [u] := by
        rw [List.take_add_one, List.getElem?_set_self ho, List.take_set_of_le (Nat.le_refl _)]; rfl
      have e2 : (vs.set o u).drop (o + 1 + r.length) = vs.drop (o + (u :: r).length) := by
        rw [List.drop_set_of_lt (by omega)]; congr 1; simp; omega
      have e3 : (u :: r).take (vs.length - o) = u :: r.take (vs.length - (o + 1)) := by
        rw [show vs.length - o = (vs.length - (o + 1)) + 1 by omega, List.take_succ_cons]
      rw [e1, e2, e3, List.length_set]
      simp
    · rw [List.set_eq_of_length_le (by omega), List.take_of_length_le (by omega), List.take_of_length_le (by omega : vs.length ≤ o), show vs.length - (o + 1) = 0 by omega, show vs.length - o = 0 by omega, List.drop_eq_nil_of_le (by omega), List.drop_eq_nil_of_le (by simp; omega)]
      simp
end Cel

end Go.Proofs.Ytogajmbkjojdhaa
