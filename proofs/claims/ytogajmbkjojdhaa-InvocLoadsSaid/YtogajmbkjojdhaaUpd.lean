/- A world of which some blocks have turned, and none else; ranges of cells. Of no program. -/
import Derived.Test.YtogajmbkjojdhaaBase
set_option linter.unusedVariables false
namespace Go.Proofs.Ytogajmbkjojdhaa
open Go.RowKit

/-- Of the blocks that were there none but those of F have turned. -/
structure Upd (F : List Nat) (w w' : World) : Prop where
  os : w'.os = w.os
  tape : w'.tape = w.tape
  output : w'.output = w.output
  size : w.heap.size ≤ w'.heap.size
  block : ∀ k, k < w.heap.size → k ∉ F → w'.heap[k]? = w.heap[k]?

namespace Upd
theorem refl (F : List Nat) (w : World) : Upd F w w := ⟨rfl, rfl, rfl, Nat.le_refl _, fun _ _ _ => rfl⟩
theorem trans {F : List Nat} {w w1 w2 : World} (h : Upd F w w1) (k : Upd F w1 w2) : Upd F w w2 :=
  ⟨k.os.trans h.os, k.tape.trans h.tape, k.output.trans h.output, Nat.le_trans h.size k.size, fun i hi hn => (k.block i (Nat.lt_of_lt_of_le hi h.size) hn).trans (h.block i hi hn)⟩
theorem transG {F G : List Nat} {w w1 w2 : World} (h : Upd F w w1) (k : Upd G w1 w2) (hg : ∀ i ∈ G, i ∈ F ∨ w.heap.size ≤ i) : Upd F w w2 :=
  ⟨k.os.trans h.os, k.tape.trans h.tape, k.output.trans h.output, Nat.le_trans h.size k.size, fun i hi hn => (k.block i (Nat.lt_of_lt_of_le hi h.size) (fun hin => by rcases hg i hin with h1 | h1; exact hn h1; omega)).trans (h.block i hi hn)⟩
theorem mono {F G : List Nat} {w w' : World} (h : Upd F w w') (hg : ∀ i ∈ F, i ∈ G) : Upd G w w' := ⟨h.os, h.tape, h.output, h.size, fun i hi hn => h.block i hi (fun hin => hn (hg i hin))⟩
theorem ofBelow {w w' : World} (F : List Nat) (h : Below w.heap.size w w') : Upd F w w' := ⟨h.os, h.tape, h.output, h.size, fun i hi _ => h.block i hi⟩
theorem drew {F : List Nat} {w w' : World} (h : Upd F w w') : Upd F w w'.drew := ⟨h.os, h.tape, h.output, h.size, h.block⟩
theorem alloc {F : List Nat} {w w' : World} (h : Upd F w w') (o : Obj) : Upd F w (w'.alloc o) :=
  h.trans (ofBelow F ((Below.refl _ _).alloc (Nat.le_refl _) o))
theorem setCell {F : List Nat} {w w' : World} (h : Upd F w w') {p : Addr} (hp : p.block ∈ F) (v : Value) : Upd F w (w'.setCell p v) :=
  h.trans ⟨rfl, rfl, rfl, by simp [World.setCell], fun i _ hn => Below.heap_setCell _ _ _ _ (fun e => hn (e ▸ hp))⟩
theorem heap_setCells (b k : Nat) (hk : k ≠ b) : ∀ (vs : List Value) (o : Nat) (w : World), (w.setCells b o vs).heap[k]? = w.heap[k]?
  | [], _, _ => rfl
  | v :: r, o, w => by rw [World.setCells, heap_setCells b k hk r (o + 1)]; exact Below.heap_setCell _ _ _ _ hk
theorem size_setCells (b : Nat) : ∀ (vs : List Value) (o : Nat) (w : World), (w.setCells b o vs).heap.size = w.heap.size
  | [], _, _ => rfl
  | v :: r, o, w => by rw [World.setCells, size_setCells b r (o + 1)]; simp [World.setCell]
theorem os_setCells (b : Nat) : ∀ (vs : List Value) (o : Nat) (w : World), (w.setCells b o vs).os = w.os ∧ (w.setCells b o vs).tape = w.tape ∧ (w.setCells b o vs).output = w.output
  | [], _, _ => ⟨rfl, rfl, rfl⟩
  | v :: r, o, w => by rw [World.setCells]; exact os_setCells b r (o + 1) _
theorem setCells {F : List Nat} {w w' : World} (h : Upd F w w') {b : Nat} (hp : b ∈ F) (o : Nat) (vs : List Value) : Upd F w (w'.setCells b o vs) :=
  h.trans ⟨(os_setCells b vs o w').1, (os_setCells b vs o w').2.1, (os_setCells b vs o w').2.2, by rw [size_setCells]; exact Nat.le_refl _, fun i _ hn => heap_setCells b i (fun e => hn (e ▸ hp)) vs o w'⟩
theorem toBelow {B : Nat} {a w w' : World} {F : List Nat} (h : Below B a w) (k : Upd F w w') (hB : B ≤ w.heap.size) (hF : ∀ i ∈ F, B ≤ i) : Below B a w' :=
  h.trans ⟨k.os, k.tape, k.output, k.size, fun i hi => k.block i (Nat.lt_of_lt_of_le hi hB) (fun hin => by have := hF i hin; omega)⟩
theorem cell {F : List Nat} {w w' : World} (h : Upd F w w') {b o : Nat} {v : Value} (hb : b ∉ F) (hc : w.cell? ⟨b, o, none⟩ = some v) : w'.cell? ⟨b, o, none⟩ = some v :=
  (World.cell?_of_block (w := w) (h.block b (World.block_lt_of_cell? w _ hc) hb)).trans hc
theorem frozen {F : List Nat} {w w' : World} (h : Upd F w w') {b o : Nat} {v : Value} (hb : b ∉ F) (hc : w.cell? ⟨b, o, none⟩ = some v) : w'.frozen? ⟨b, o, none⟩ = w.frozen? ⟨b, o, none⟩ :=
  World.frozen?_of_block (w := w) (h.block b (World.block_lt_of_cell? w _ hc) hb)
theorem range {F : List Nat} {w w' : World} (h : Upd F w w') {b o : Nat} {cs : List Value} (hb : b ∉ F) (hc : w.rangeAt b o cs) : w'.rangeAt b o cs := fun j v hv => h.cell hb (hc j v hv)
theorem there {F : List Nat} {w w' : World} (h : Upd F w w') {b o n : Nat} (hb : b ∉ F) (hc : w.there b o n) : w'.there b o n := fun j hj => by
  obtain ⟨h1, h2⟩ := hc j hj
  obtain ⟨u, hu⟩ := Option.isSome_iff_exists.1 h1
  exact ⟨by rw [h.cell hb hu]; rfl, (World.frozen?_of_block (w := w) (h.block b (World.block_lt_of_cell? w _ hu) hb)).trans h2⟩
theorem heap {F : List Nat} {w w' : World} (h : Upd F w w') {b : Nat} {o : Obj} (hb : b ∉ F) (hc : w.heap[b]? = some o) : w'.heap[b]? = some o := by
  have : b < w.heap.size := (Array.getElem?_eq_some_iff.1 hc).1
  rw [h.block b this hb, hc]
end Upd

theorem below_range {w w' : World} (h : Below w.heap.size w w') {b o : Nat} {cs : List Value} (hc : w.rangeAt b o cs) : w'.rangeAt b o cs := (Upd.ofBelow [] h).range (by simp) hc
theorem below_there {w w' : World} (h : Below w.heap.size w w') {b o n : Nat} (hc : w.there b o n) : w'.there b o n := (Upd.ofBelow [] h).there (by simp) hc
theorem below_cell {w w' : World} (h : Below w.heap.size w w') {b o : Nat} {v : Value} (hc : w.cell? ⟨b, o, none⟩ = some v) : w'.cell? ⟨b, o, none⟩ = some v := (Upd.ofBelow [] h).cell (by simp) hc

end Go.Proofs.Ytogajmbkjojdhaa
