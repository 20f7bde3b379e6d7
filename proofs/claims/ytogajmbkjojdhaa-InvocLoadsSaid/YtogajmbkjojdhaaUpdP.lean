/- Of the blocks that were there only those with a property have turned. Of no program. -/
import Derived.Test.YtogajmbkjojdhaaCel
import Derived.Test.YtogajmbkjojdhaaMap
set_option linter.unusedVariables false
namespace Go.Proofs.Ytogajmbkjojdhaa
open Go.RowKit

/-- Of the blocks that were there none but those of P have turned. -/
structure UpdP (P : Nat → Prop) (w w' : World) : Prop where
  os : w'.os = w.os
  tape : w'.tape = w.tape
  output : w'.output = w.output
  size : w.heap.size ≤ w'.heap.size
  block : ∀ k, k < w.heap.size → ¬ P k → w'.heap[k]? = w.heap[k]?
/-- The blocks of P, and what is new. -/
def Gr (P : Nat → Prop) (w w' : World) (k : Nat) : Prop := P k ∨ (w.heap.size ≤ k ∧ k < w'.heap.size)
namespace UpdP
variable {P P' : Nat → Prop} {w w1 w2 w' : World}
theorem refl (P : Nat → Prop) (w : World) : UpdP P w w := ⟨rfl, rfl, rfl, Nat.le_refl _, fun _ _ _ => rfl⟩
theorem trans (h : UpdP P w w1) (k : UpdP (Gr P w w1) w1 w2) : UpdP P w w2 :=
  ⟨k.os.trans h.os, k.tape.trans h.tape, k.output.trans h.output, Nat.le_trans h.size k.size, fun i hi hn => (k.block i (Nat.lt_of_lt_of_le hi h.size) (fun hin => by rcases hin with h1 | h1; exact hn h1; omega)).trans (h.block i hi hn)⟩
theorem of {F : List Nat} (h : Upd F w w') (hF : ∀ k ∈ F, P k ∨ w.heap.size ≤ k) : UpdP P w w' := ⟨h.os, h.tape, h.output, h.size, fun k hk hn => h.block k hk (fun hin => by rcases hF k hin with h1 | h1; exact hn h1; omega)⟩
theorem ofB (h : Below w.heap.size w w') : UpdP P w w' := of (Upd.ofBelow [] h) (by simp)
theorem heap {g : Nat} {o : Obj} (h : UpdP P w w') (hg : ¬ P g) (ho : w.heap[g]? = some o) : w'.heap[g]? = some o := by rw [h.block g (Array.getElem?_eq_some_iff.1 ho).1 hg, ho]
theorem toB {n : Nat} {w0 : World} (h : UpdP P w w') (hb : Below n w0 w) (hn : n ≤ w.heap.size) (hP : ∀ k, P k → n ≤ k) : Below n w0 w' :=
  hb.trans ⟨h.os, h.tape, h.output, h.size, fun i hi => h.block i (Nat.lt_of_lt_of_le hi hn) (fun hp => by have := hP i hp; omega)⟩
end UpdP
theorem Gr.sub {P : Nat → Prop} {w w1 w2 : World} (h : w.heap.size ≤ w1.heap.size) (h2 : w1.heap.size ≤ w2.heap.size) {k : Nat} (hk : Gr (Gr P w w1) w1 w2 k) : Gr P w w2 k := by
  rcases hk with (h1 | h1) | h1
  · exact .inl h1
  · exact .inr ⟨h1.1, by omega⟩
  · exact .inr ⟨by omega, h1.2⟩

end Go.Proofs.Ytogajmbkjojdhaa
