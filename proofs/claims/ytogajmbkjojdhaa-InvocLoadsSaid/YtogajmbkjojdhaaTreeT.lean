/- A region whose order is open: the first n as a tree of stages, the others one behind the other. Of no program. -/
import Derived.Test.YtogajmbkjojdhaaTree
import Derived.Test.YtogajmbkjojdhaaRound
set_option linter.unusedVariables false
namespace Go.Proofs.Ytogajmbkjojdhaa
namespace Mix
open Go Go.RowKit
def okPT (l : List Oper) (n : Nat) (pl : Pl) : Bool :=
  okPl (l.take n) pl && Tail.lowerB l.toArray && Tail.guardB l.toArray n && Region.sinkB .any l.toArray n && Region.chainB .any l.toArray n && decide (n < l.length)
theorem any_tree_tail {P : Program} {Q : Act → World → Prop} {a : Act} {w : World} {l : List Oper} (n : Nat) (pl : Pl) (S : World → Prop) (hB : okPT l n pl = true) (hS : S w.drew)
    (h : Tree P (l.take n) (fun a' w' => wpList P l.toArray (OnlyN Q) (l.drop n) a' w') pl S a w.drew) : wpAny P .any l.toArray (OnlyN Q) l.toArray.size (Array.replicate l.toArray.size false) a w.drew := by
  simp only [okPT, Bool.and_eq_true, decide_eq_true_eq] at hB
  obtain ⟨⟨⟨⟨⟨hO, hlow⟩, hgd⟩, hs⟩, hc⟩, hn⟩ := hB
  simp only [okPl, Bool.and_eq_true, decide_eq_true_eq] at hO
  obtain ⟨⟨⟨hse, hp⟩, hl⟩, he⟩ := hO
  have hm := tree_sound (P := P) (md := .any) hse pl _ S a w.drew he hp hS h
  rw [hl] at hm
  have hA := wpAny_of_held _ _ _ _ hm
  have hpre : ∀ j, j < n → (l.take n).toArray[j]? = l.toArray[j]? := fun j hj => by simp [hj]
  have hlen : (l.take n).length = n := by simp; omega
  have hz : (l.take n).toArray.size = n := by simp; omega
  have := Tail.wpAny_headW (P := P) (md := .any) (Q := Q) (n := n) (ops := l.toArray) (ops' := (l.take n).toArray) (l := l.drop n) (by simpa using hn) hz hpre hlow hgd hs hc (fun j => by simp [List.getElem?_drop])
    (fun a w h => h) (l.take n).length (Array.replicate l.toArray.size false) (Array.replicate (l.take n).toArray.size false) a w.drew
    ⟨by simp, fun j oj hj hl => (by rw [getD_replicate_false] at hl; cases hl), fun t ht ht' => by simp at ht' ⊢; simp [ht']⟩ (by simp; omega)
    (fun j hj => Tail.replicate_getD_true _ _ _ (by simp; omega) (by rw [hz]; exact hj)) (fun j hj => by rw [getD_replicate_false, getD_replicate_false]) hA
  have e : (l.take n).length + (l.drop n).length = l.toArray.size := by simp; omega
  rw [e] at this
  exact this
theorem wp_region_tree_tail {P : Program} {id : Nat} {Q : Exit → Act → World → Prop} {a : Act} {w : World} {l : List Oper} (n : Nat) (pl : Pl) (S : World → Prop) (hm : P.follows .mixedOrders = true) (hB : okPT l n pl = true) (hS : S w.drew)
    (h : Tree P (l.take n) (fun a' w' => wpList P l.toArray (OnlyN (fun a' w' => Q .normal a' w')) (l.drop n) a' w') pl S a w.drew) : (Code.region id l.toArray true).wp P Q a w := by
  refine Code.wp_mono (Q := OnlyN (fun a' w' => Q .normal a' w')) (fun e a w h => ?_) (wp_region_any hm (any_tree_tail n pl S hB hS h))
  cases e <;> first | exact h | exact (h : False).elim
end Mix
end Go.Proofs.Ytogajmbkjojdhaa
