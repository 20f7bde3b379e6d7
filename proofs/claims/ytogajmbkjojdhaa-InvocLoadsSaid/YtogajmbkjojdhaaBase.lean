/- Small laws on worlds that are of no one function; a region whose order is open and whose operations only read or make new memory. -/
import Derived.Test.YtogajmbkjojdhaaProg
import Derived.WalkKit
import Derived.WalkLawsBesides
import Derived.WalkSpells
import Derived.Lib.Hide
import Derived.Outline
import Derived.Deep.MidRow
import Derived.Deep.Quiet
import Derived.Deep.QuietTactic
import Derived.BigQuiet
import Derived.OneCell
import Derived.Test.YtogajmbkjojdhaaTail
set_option linter.unusedVariables false
namespace Go.Proofs.Ytogajmbkjojdhaa
open Go.RowKit

theorem bthen' {w w1 w2 : World} (h1 : Below w.heap.size w w1) (h2 : Below w1.heap.size w1 w2) : Below w.heap.size w w2 := h1.trans (h2.mono h1.size)

/-- A world that came of W by new memory alone. -/
structure Later (W : World) where
  w : World
  h : Below W.heap.size W w

instance (W : World) : Nonempty (Later W) := ⟨⟨W, Below.refl _ _⟩⟩

theorem Later.block {W : World} (x : Later W) {g : Nat} {o : Obj} (hg : W.heap[g]? = some o) : x.w.heap[g]? = some o := by
  rw [x.h.block _ (lt_of_block hg), hg]
theorem Later.cell {W : World} (x : Later W) {g i : Nat} {v : Value} (hg : W.cell? ⟨g, i, none⟩ = some v) : x.w.cell? ⟨g, i, none⟩ = some v := by
  rw [x.h.cell (World.block_lt_of_cell? W _ hg), hg]

/-- A region whose order is open: walked once, in the text's order, in the class of later worlds. -/
theorem wp_region_later {P : Program} {id : Nat} {Q : Exit → Act → World → Prop} {a : Act} {w W : World} {l : List Oper} (hm : P.follows .mixedOrders = true) (hB : Region.lexB .any l.toArray = true)
    (hW : Below W.heap.size W w)
    (h : wpQuiet P l.toArray (fun w' => ∃ x : Later W, w' = x.w) (fun a' => ∀ x : Later W, Q .normal a' x.w) l a) : (Code.region id l.toArray true).wp P Q a w := by
  refine wp_region_quiet (C := fun w' => ∃ x : Later W, w' = x.w) hm hB ⟨⟨w.drew, hW.drew⟩, rfl⟩ ?_
  have e : (fun a' => ∀ w', (∃ x : Later W, w' = x.w) → Q .normal a' w') = (fun a' => ∀ x : Later W, Q .normal a' x.w) := by
    funext a'
    apply propext
    exact ⟨fun h x => h _ ⟨x, rfl⟩, fun h w' ⟨x, hx⟩ => hx ▸ h x⟩
  rw [e]
  simpa using h

/-- .. and behind the first n operations the others, one behind the other. -/
theorem wp_region_later_tail {P : Program} {id : Nat} (n : Nat) {Q : Exit → Act → World → Prop} {a : Act} {w W : World} {l : List Oper} (hm : P.follows .mixedOrders = true) (hB : Tail.okB .any l n = true)
    (hW : Below W.heap.size W w)
    (h : wpQuiet P (l.take n).toArray (fun w' => ∃ x : Later W, w' = x.w) (fun a' => ∀ x : Later W, wpList P l.toArray Q (l.drop n) a' x.w) (l.take n) a) : (Code.region id l.toArray true).wp P Q a w := by
  refine Tail.wp_region_tail (C := fun w' => ∃ x : Later W, w' = x.w) hm hB ⟨⟨w.drew, hW.drew⟩, rfl⟩ ?_
  have e : (fun a' => ∀ w', (∃ x : Later W, w' = x.w) → wpList P l.toArray Q (l.drop n) a' w') = (fun a' => ∀ x : Later W, wpList P l.toArray Q (l.drop n) a' x.w) := by
    funext a'
    apply propext
    exact ⟨fun h x => h _ ⟨x, rfl⟩, fun h w' ⟨x, hx⟩ => hx ▸ h x⟩
  rw [e]
  exact h

/-- A whole row read, in every world of the class. -/
theorem quiet_load_row {P : Program} {C : World → Prop} {K : Act → Prop} {a : Act} {o : Oper} (ty : TypeId) (x : Operand) (ho : o.op = .load ty x)
    (g : Nat) (hx : a.eval x = .pointer (some ⟨g, 0, none⟩)) (t : TypeId) (cs : Array Value) (fr : Nat × Nat) (d : TypeDesc) (hg : ∀ w, C w → w.heap[g]? = some (.cells cs t fr))
    (hu : P.underlying ty = some d) (hd : (match d with | .struct _ | .array _ _ => true | _ => false) = true) (hi : (P.info? ty).map (·.size) = some cs.size)
    (h : K (a.put o.dst (.agg cs))) : o.quiet P a C K :=
  ⟨.agg cs, fun w hw => by
    unfold Oper.quietAt execOp
    simp only [ho, hx, Instr.loadAt, Instr.sureAddr, Sem.run_bind, Sem.run_pure, Result.andThen_ok, run_loadVar_row w g t ty cs fr d (hg w hw) hu hd hi]
    exact ⟨rfl, rfl⟩, h⟩

/-- A call that makes new memory alone, met in a later world. -/
theorem Calls.later {P : Program} {f : FuncId} {args : Array Value} {W : World} {x : Later W} {v : Value}
    (h : Calls P f args x.w fun e w' => e = .returned v ∧ Below x.w.heap.size x.w w') : Calls P f args x.w fun e w'' => e = .returned v ∧ ∃ y : Later W, w'' = y.w :=
  h.mono fun _ w' ⟨he, hb⟩ => ⟨he, ⟨w', bthen' x.h hb⟩, rfl⟩
theorem Calls.later_same {P : Program} {f : FuncId} {args : Array Value} {W : World} {x : Later W} {v : Value}
    (h : Calls P f args x.w fun e w' => e = .returned v ∧ x.w = w') : Calls P f args x.w fun e w'' => e = .returned v ∧ ∃ y : Later W, w'' = y.w :=
  h.mono fun _ w' ⟨he, hb⟩ => ⟨he, x, hb.symm⟩

/-- A whole row read, behind a guard that says yes too. -/
theorem wl_load_row {P : Program} {ops : Array Oper} {rest : List Oper} {o : Oper} {a : Act} {w : World} {Q : Exit → Act → World → Prop} (hw : Region.wanted o (yielded ops a.tmps) = true) (ty : TypeId) (x : Operand) (ho : o.op = .load ty x)
    (g : Nat) (hx : a.eval x = .pointer (some ⟨g, 0, none⟩)) (t : TypeId) (cs : Array Value) (fr : Nat × Nat) (d : TypeDesc) (hg : w.heap[g]? = some (.cells cs t fr))
    (hu : P.underlying ty = some d) (hd : (match d with | .struct _ | .array _ _ => true | _ => false) = true) (hi : (P.info? ty).map (·.size) = some cs.size)
    (h : wpList P ops Q rest (a.put o.dst (.agg cs)) w) : wpList P ops Q (o :: rest) a w :=
  BigFrame.wpList_want hw fun _ hK => wp_load_row ty x ho g hx t cs fr d hg hu hd hi (hK _ _ h)
end Go.Proofs.Ytogajmbkjojdhaa
