/- Records of a type of any make, slices of them that are read, slices of one's own; once for all types of a dump. -/
import Derived.Test.YtogajmbkjojdhaaUpd
import Derived.Deep.AppendLies
import Derived.OwnWalk
import Derived.Great.BuildSlice
import Derived.Maps.AppendAt
import Derived.OpenShut
import Derived.Deep.Slices
import Derived.ProofKit
set_option linter.unusedVariables false
namespace Go.Proofs.Ytogajmbkjojdhaa
open Go.RowKit

theorem take_snoc {α : Type} {L : List α} {k : Nat} {x : α} (h : L[k]? = some x) : L.take k ++ [x] = L.take (k + 1) := by
  rw [List.take_add_one, h]; rfl

/-- How values of α lie as a type's cells. -/
structure Rec (α : Type) where
  ty : TypeId
  st : TypeId
  n : Nat
  bytes : Nat
  val : α → Value
  zero : α

def Rec.cells {α : Type} (R : Rec α) (x : α) : List Value := (R.val x).cells.toList

structure Rec.Ok {α : Type} (R : Rec α) : Prop where
  pos : 0 < R.n
  small : R.n ≤ 100
  bsmall : R.bytes ≤ 10000
  len : ∀ x, (R.val x).cells.size = R.n
  one : ∀ x, ∀ v ∈ R.cells x, v.oneCell' = true
  slice : Try.prog.underlying R.st = some (.slice R.ty)
  info : ∃ i, Try.prog.info? R.ty = some i ∧ i.zero = some (R.val R.zero) ∧ i.size = R.n ∧ i.bytes = R.bytes
  fill : ∀ y, Instr.fill (fun i => some (i * R.n, R.n)) ((Array.range (1 * R.n)).map (fun x => (R.val R.zero).cells[x % (R.val R.zero).cells.size]!)) [(0, R.val y)] = some (R.val y).cells

section
variable {α : Type} {R : Rec α}
theorem Rec.Ok.length (k : R.Ok) (x : α) : (R.cells x).length = R.n := by
  unfold Rec.cells
  rw [Array.length_toList, k.len]
theorem Rec.Ok.row (k : R.Ok) (x : α) : (Try.prog.info? R.ty).map (·.size) = some (R.cells x).length := by
  obtain ⟨i, hi, _, hs, _⟩ := k.info
  rw [hi, k.length]; simp [hs]
theorem Rec.Ok.row' (k : R.Ok) (x : α) : (Try.prog.info? R.ty).map (·.size) = some (R.cells x).toArray.size := by
  rw [k.row x]; simp
theorem Rec.Ok.one' (k : R.Ok) (x : α) : (R.cells x).toArray.all (·.oneCell') = true := all_oneCell_toArray (k.one x)
theorem Rec.toArray (x : α) : (R.cells x).toArray = (R.val x).cells := by unfold Rec.cells; simp

/-! ### reading -/
/-- A slice that reads as these. -/
def Reads (R : Rec α) (w : World) (v : Value) (L : List α) : Prop :=
  (L = [] ∧ ∃ a cap, v = .slice a 0 cap) ∨ (∃ b off cap, v = .slice (some ⟨b, off, none⟩) L.length cap ∧ ∀ i x, L[i]? = some x → w.rangeAt b (off + i * R.n) (R.cells x))
/-- .. and lies in no block of F. -/
def ReadsOut (R : Rec α) (F : List Nat) (w : World) (v : Value) (L : List α) : Prop :=
  (L = [] ∧ ∃ a cap, v = .slice a 0 cap) ∨ (∃ b off cap, v = .slice (some ⟨b, off, none⟩) L.length cap ∧ b ∉ F ∧ ∀ i x, L[i]? = some x → w.rangeAt b (off + i * R.n) (R.cells x))
/-- .. and lies from block B on. -/
def ReadsAt (R : Rec α) (B : Nat) (w : World) (v : Value) (L : List α) : Prop :=
  (L = [] ∧ ∃ a cap, v = .slice a 0 cap) ∨ (∃ b off cap, v = .slice (some ⟨b, off, none⟩) L.length cap ∧ B ≤ b ∧ ∀ i x, L[i]? = some x → w.rangeAt b (off + i * R.n) (R.cells x))

theorem Reads.below {w w' : World} {v : Value} {L : List α} (h : Reads R w v L) (hb : Below w.heap.size w w') : Reads R w' v L := by
  rcases h with h | ⟨b, off, cap, hv, hr⟩
  · exact .inl h
  · exact .inr ⟨b, off, cap, hv, fun i x hx => below_range hb (hr i x hx)⟩
theorem Reads.form {w : World} {v : Value} {L : List α} (h : Reads R w v L) : ∃ a cap, v = .slice a L.length cap := by
  rcases h with ⟨rfl, a, cap, rfl⟩ | ⟨b, off, cap, rfl, _⟩
  · exact ⟨a, cap, rfl⟩
  · exact ⟨_, cap, rfl⟩
theorem Reads.at {w : World} {a : Option Addr} {n cap : Nat} {L : List α} (h : Reads R w (.slice a n cap) L) {k : Nat} {x : α} (hx : L[k]? = some x) : ∃ b off, a = some ⟨b, off, none⟩ ∧ w.rangeAt b (off + k * R.n) (R.cells x) := by
  rcases h with ⟨rfl, _⟩ | ⟨b, off, cap, hv, hr⟩
  · simp at hx
  · simp only [Value.slice.injEq] at hv
    exact ⟨b, off, hv.1, hr k x hx⟩
theorem ReadsOut.lts {F : List Nat} {w : World} {v : Value} {L : List α} (h : ReadsOut R F w v L) : Reads R w v L := by
  rcases h with h | ⟨b, off, cap, hv, -, hr⟩
  · exact .inl h
  · exact .inr ⟨b, off, cap, hv, hr⟩
theorem ReadsOut.upd {F : List Nat} {w w' : World} {v : Value} {L : List α} (h : ReadsOut R F w v L) (hb : Upd F w w') : ReadsOut R F w' v L := by
  rcases h with h | ⟨b, off, cap, hv, hn, hr⟩
  · exact .inl h
  · exact .inr ⟨b, off, cap, hv, hn, fun i x hx => hb.range hn (hr i x hx)⟩
theorem ReadsAt.lts {B : Nat} {w : World} {v : Value} {L : List α} (h : ReadsAt R B w v L) : Reads R w v L := by
  rcases h with h | ⟨b, off, cap, hv, -, hr⟩
  · exact .inl h
  · exact .inr ⟨b, off, cap, hv, hr⟩
theorem ReadsAt.out {B : Nat} {w : World} {v : Value} {L : List α} (h : ReadsAt R B w v L) (F : List Nat) (hF : ∀ i ∈ F, i < B) : ReadsOut R F w v L := by
  rcases h with h | ⟨b, off, cap, hv, hb, hr⟩
  · exact .inl h
  · exact .inr ⟨b, off, cap, hv, fun hin => by have := hF b hin; omega, hr⟩
/-- What reads so in an elder world lies in none of the newer blocks. -/
theorem Reads.out (k : R.Ok) {w : World} {v : Value} {L : List α} (h : Reads R w v L) (F : List Nat) (hF : ∀ i ∈ F, w.heap.size ≤ i) : ReadsOut R F w v L := by
  rcases h with h | ⟨b, off, cap, hv, hr⟩
  · exact .inl h
  · by_cases h0 : L = []
    · subst h0; exact .inl ⟨rfl, _, _, hv⟩
    · refine .inr ⟨b, off, cap, hv, fun hin => ?_, hr⟩
      obtain ⟨x, hx⟩ : ∃ x, L[0]? = some x := ⟨_, List.getElem?_eq_getElem (List.length_pos_iff.2 h0)⟩
      have h1 := hr 0 x hx
      obtain ⟨u, hu⟩ : ∃ u, (R.cells x)[0]? = some u := ⟨_, List.getElem?_eq_getElem (by rw [k.length]; exact k.pos)⟩
      have h2 := World.block_lt_of_cell? w _ (h1 0 u hu)
      have h3 := hF b hin
      simp only at h2
      omega

/-! ### a slice of one's own -/
def Owns (R : Rec α) (B : Nat) (w : World) (v : Value) (L : List α) : Prop := w.ownsRow B R.ty R.n v L.length (L.flatMap R.cells)

theorem recs_length (k : R.Ok) (L : List α) : (L.flatMap R.cells).length = L.length * R.n := by
  induction L with
  | nil => simp
  | cons x L ih => rw [List.flatMap_cons, List.length_append, ih, k.length, List.length_cons, Nat.add_mul]; omega
theorem recs_at (k : R.Ok) (L : List α) : ∀ (i : Nat) (x : α) (j : Nat) (v : Value), L[i]? = some x → (R.cells x)[j]? = some v → (L.flatMap R.cells)[i * R.n + j]? = some v := by
  induction L with
  | nil => intro i x j v h; simp at h
  | cons y L ih =>
    intro i x j v h hv
    cases i with
    | zero =>
      simp at h
      subst h
      have hj := (List.getElem?_eq_some_iff.1 hv).1
      rw [List.flatMap_cons, List.getElem?_append_left (by omega), Nat.zero_mul, Nat.zero_add]
      exact hv
    | succ i =>
      simp at h
      have hl := k.length y
      have e : (i + 1) * R.n = i * R.n + R.n := by rw [Nat.add_mul]; omega
      rw [List.flatMap_cons, List.getElem?_append_right (by omega), show (i + 1) * R.n + j - (R.cells y).length = i * R.n + j by omega]
      exact ih i x j v h hv
theorem recs_get (k : R.Ok) (L : List α) : ∀ (j : Nat) (u : Value), (L.flatMap R.cells)[j]? = some u → ∃ i x m, L[i]? = some x ∧ (R.cells x)[m]? = some u ∧ j = i * R.n + m := by
  induction L with
  | nil => intro j u h; simp at h
  | cons y L ih =>
    intro j u h
    rw [List.flatMap_cons] at h
    have hl := k.length y
    by_cases hj : j < R.n
    · rw [List.getElem?_append_left (by omega)] at h
      exact ⟨0, y, j, rfl, h, by omega⟩
    · rw [List.getElem?_append_right (by omega), hl] at h
      obtain ⟨i, x, m, h1, h2, h3⟩ := ih (j - R.n) u h
      exact ⟨i + 1, x, m, by simpa using h1, h2, by rw [Nat.add_mul]; omega⟩
theorem recs_one (k : R.Ok) (L : List α) : ∀ u ∈ L.flatMap R.cells, u.oneCell' = true := by
  intro u hu
  obtain ⟨x, _, hx⟩ := List.mem_flatMap.1 hu
  exact k.one x u hx

theorem Owns.at (k : R.Ok) {B : Nat} {w : World} {v : Value} {L : List α} (h : Owns R B w v L) : ReadsAt R B w v L := by
  rcases h.2 with ⟨rfl, h0⟩ | ⟨g, cap, cur, rfl, hb, hg, hn, hm, hs, ht⟩
  · left
    exact ⟨List.eq_nil_of_length_eq_zero h0, none, 0, rfl⟩
  · right
    refine ⟨g, 0, cap, rfl, hb, fun i x hx j v hv => ?_⟩
    rw [cell_of_row w g _ cur _ (0, 0) hg]
    have h1 := recs_at k L i x j v hx hv
    rw [← ht, List.getElem?_take] at h1
    split at h1
    · rw [Nat.zero_add]; simpa using h1
    · cases h1
theorem Owns.lts (k : R.Ok) {B : Nat} {w : World} {v : Value} {L : List α} (h : Owns R B w v L) : Reads R w v L := (h.at k).lts
theorem Owns.nil (R : Rec α) (B : Nat) (w : World) : Owns R B w (.slice none 0 0) [] := ⟨by simp, .inl ⟨rfl, rfl⟩⟩
theorem Owns.made {B : Nat} {w : World} (hB : B ≤ w.heap.size) : Owns R B (w.alloc (.cells #[] R.ty)) (.slice (some ⟨w.heap.size, 0, none⟩) 0 0) [] :=
  ⟨by simp, .inr ⟨w.heap.size, 0, #[], rfl, hB, heap_alloc_new _ _, Nat.le_refl _, by simp [maxLen], by simp, by simp⟩⟩
theorem Owns.lt {B : Nat} {w : World} {v : Value} {L : List α} (h : Owns R B w v L) : ∀ k, v.ownBlock = some k → B ≤ k ∧ k < w.heap.size := by
  intro k hk
  rcases h.2 with ⟨rfl, h0⟩ | ⟨g, cap, cur, rfl, hb, hg, hn, hm, hs, ht⟩
  · cases hk
  · simp [Value.ownBlock] at hk
    subst hk
    exact ⟨hb, (Array.getElem?_eq_some_iff.1 hg).1⟩
theorem Owns.upd {F : List Nat} {B : Nat} {w w' : World} {v : Value} {L : List α} (h : Owns R B w v L) (hb : Upd F w w') (hF : ∀ k, v.ownBlock = some k → k ∉ F) : Owns R B w' v L := by
  refine ⟨h.1, ?_⟩
  rcases h.2 with h0 | ⟨g, cap, cur, rfl, hb2, hg, hn, hm, hs, ht⟩
  · exact .inl h0
  · exact .inr ⟨g, cap, cur, rfl, hb2, hb.heap (hF g rfl) hg, hn, hm, hs, ht⟩
theorem Owns.below {B : Nat} {w w' : World} {v : Value} {L : List α} (h : Owns R B w v L) (hb : Below w.heap.size w w') : Owns R B w' v L := h.upd (Upd.ofBelow [] hb) (by simp)
/-- .. behind an append to another slice. -/
theorem Owns.grown {B : Nat} {w w' : World} {v u : Value} {L : List α} (h : Owns R B w v L) (hg : w.grownBy w' u.ownBlock) (hne : ∀ k, v.ownBlock = some k → u.ownBlock ≠ some k) : Owns R B w' v L := by
  refine ⟨h.1, ?_⟩
  rcases h.2 with h0 | ⟨g, cap, cur, rfl, hb2, hg2, hn, hm, hs, ht⟩
  · exact .inl h0
  · exact .inr ⟨g, cap, cur, rfl, hb2, by rw [hg.block g (Array.getElem?_eq_some_iff.1 hg2).1 (fun e => hne g rfl e.symm), hg2], hn, hm, hs, ht⟩
theorem Owns.mono {B B' : Nat} {w : World} {v : Value} {L : List α} (h : Owns R B w v L) (hb : B' ≤ B) : Owns R B' w v L := by
  refine ⟨h.1, ?_⟩
  rcases h.2 with h0 | ⟨g, cap, cur, hv, hb2, hr⟩
  · exact .inl h0
  · exact .inr ⟨g, cap, cur, hv, by omega, hr⟩
theorem Owns.form {B : Nat} {w : World} {v : Value} {L : List α} (h : Owns R B w v L) : ∃ a cap, v = .slice a L.length cap := by
  rcases h.2 with ⟨rfl, h0⟩ | ⟨g, cap, cur, rfl, -⟩
  · exact ⟨none, 0, by rw [h0]⟩
  · exact ⟨_, _, rfl⟩
theorem Owns.nilOf {B : Nat} {w : World} {v : Value} {L : List α} (h : Owns R B w v L) : (v = .slice none 0 0 ∧ L = []) ∨ ∃ g cap, v = .slice (some ⟨g, 0, none⟩) L.length cap ∧ B ≤ g ∧ g < w.heap.size := by
  rcases h.2 with ⟨rfl, h0⟩ | ⟨g, cap, cur, rfl, hb, hg, -⟩
  · exact .inl ⟨rfl, List.eq_nil_of_length_eq_zero h0⟩
  · exact .inr ⟨g, cap, rfl, hb, (Array.getElem?_eq_some_iff.1 hg).1⟩

/-! ### append -/
theorem wl_append_rec (k : R.Ok) {ops : Array Oper} {rest : List Oper} {o : Oper} {a : Act} {w : World} {Q : Exit → Act → World → Prop} (hgd : o.guard = none) (s x : Operand)
    (ho : o.op = .call { callee := .builtin .append, args := #[s, x], argTypes := #[R.st, R.st] }) (B : Nat) (v : Value) (L : List α) (hs : a.eval s = v) (hown : Owns R B w v L)
    (b off c : Nat) (y : α) (hx : a.eval x = .slice (some ⟨b, off, none⟩) 1 c) (hr : w.rangeAt b off (R.cells y)) (hlen : L.length < 1000000) (hB : B ≤ w.heap.size)
    (h : ∀ g cap w', Owns R B w' (.slice (some ⟨g, 0, none⟩) (L.length + 1) cap) (L ++ [y]) → w.grownBy w' v.ownBlock → (v.ownBlock = some g ∨ g = w.heap.size) → wpList Try.prog ops Q rest (a.put o.dst (.slice (some ⟨g, 0, none⟩) (L.length + 1) cap)) w') : wpList Try.prog ops Q (o :: rest) a w := by
  obtain ⟨i, hi, hz, hs6, hby⟩ := k.info
  have hbs : (L.length + 1) * R.bytes ≤ 1000000 * 10000 := Nat.mul_le_mul (by omega) k.bsmall
  refine wpList_append_lies w hgd s x R.st ho B R.ty i _ R.n R.bytes k.slice hi hz hs6 hby (k.len _) k.pos v L.length (L.flatMap R.cells) hs hown ⟨b, off, none⟩ 1 c (R.cells y) hx (by rw [k.length]; omega)
    (fun j u hu => by rw [Addr.add_mid]; exact hr j u hu) (k.one y) (by omega) (by simp only [maxLen]; omega) (by omega) hB _ rfl ?_
  intro g cap w' hown' hg hat _
  refine h g cap w' ?_ hg hat
  show w'.ownsRow B R.ty R.n _ (L ++ [y]).length ((L ++ [y]).flatMap R.cells)
  rw [List.flatMap_append, show (L ++ [y]).length = L.length + 1 by simp]
  simpa using hown'

theorem build_one (k : R.Ok) (i : TypeInfo) (hs : i.size = R.n) (x : Operand) (a : Act) (y : α) (hx : a.eval x = R.val y) :
    Instr.fill (fun j => some (j * i.size, i.size)) ((Array.range (1 * i.size)).map (fun j => (R.val R.zero).cells[j % (R.val R.zero).cells.size]!)) ((#[(0, x)] : Array (Nat × Operand)).map fun (j, z) => (j, a.eval z)).toList = some (R.val y).cells := by
  rw [hs, show ((#[(0, x)] : Array (Nat × Operand)).map fun (i, x) => (i, a.eval x)).toList = [(0, R.val y)] from by simp [hx]]
  exact k.fill y

theorem wl_build_rec (k : R.Ok) {ops : Array Oper} {rest : List Oper} {o : Oper} {a : Act} {w : World} {Q : Exit → Act → World → Prop} (hgd : o.guard = none) (x : Operand)
    (ho : o.op = .buildSlice R.st 1 #[(0, x)]) (y : α) (hx : a.eval x = R.val y)
    (h : wpList Try.prog ops Q rest (a.put o.dst (.slice (some ⟨w.heap.size, 0, none⟩) 1 1)) (w.alloc (.cells (R.val y).cells R.ty))) : wpList Try.prog ops Q (o :: rest) a w := by
  obtain ⟨i, hi, hz, hs6, hby⟩ := k.info
  refine wpList_buildSlice hgd R.st R.ty 1 #[(0, x)] ho (R.val y).cells i _ k.slice hi hz (by rw [hs6]; have := k.small; omega) (by rw [hs6]; have := k.pos; omega) ?_ h
  exact build_one k i hs6 x a y hx

theorem built_range {w : World} (y : α) : (w.alloc (.cells (R.val y).cells R.ty)).rangeAt w.heap.size 0 (R.cells y) := fun j v hv => by
  rw [cell_of_row _ w.heap.size (0 + j) _ R.ty (0, 0) (heap_alloc_new _ _)]
  unfold Rec.cells at hv
  simpa using hv
theorem row_reads {w : World} {b : Nat} {t : TypeId} (y : α) (h : w.heap[b]? = some (.cells (R.val y).cells t (0, 0))) : w.rangeAt b 0 (R.cells y) := fun j v hv => by
  rw [cell_of_row w b (0 + j) _ t (0, 0) h]
  unfold Rec.cells at hv
  simpa using hv

theorem run_append_nothing (k : R.Ok) (w : World) (B : Nat) (u : Value) (M : List α) (h : Owns R B w u M) (c : Nat) : (Builtin.append_ #[R.st, R.st] R.st #[u, .slice none 0 c]).run Try.prog w = .ok u w := by
  obtain ⟨i, hi, hz, hs6, hby⟩ := k.info
  have hu := k.slice
  rcases h.2 with ⟨rfl, h0⟩ | ⟨g, cap, cur, rfl, hb, hg, hn, hm, hs, ht⟩
  · simp [Builtin.append_, run_underlying hu, sizeOf, typeInfo, hi, Builtin.lenOf, Builtin.firstCells]
  · simp [Builtin.append_, run_underlying hu, sizeOf, typeInfo, hi, Builtin.lenOf, Builtin.firstCells, hn, storeCells]

theorem run_append_all (k : R.Ok) (w : World) (B : Nat) (u v : Value) (M L : List α) (h : Owns R B w u M) (hv : Reads R w v L) (hl : M.length + L.length ≤ 1000000) (hB : B ≤ w.heap.size) :
    ∃ u' w', (Builtin.append_ #[R.st, R.st] R.st #[u, v]).run Try.prog w = .ok u' w' ∧ Owns R B w' u' (M ++ L) ∧ w.grownBy w' u.ownBlock ∧ (u'.ownBlock = u.ownBlock ∨ u'.ownBlock = some w.heap.size) := by
  obtain ⟨i, hi, hz, hs6, hby⟩ := k.info
  have hbs : (M.length + L.length) * R.bytes ≤ 1000000 * 10000 := Nat.mul_le_mul (by omega) k.bsmall
  have main : ∀ (ad : Addr) (c : Nat), (∀ j x, (L.flatMap R.cells)[j]? = some x → w.cell? (ad.add j) = some x) → ∃ u' w', (Builtin.append_ #[R.st, R.st] R.st #[u, .slice (some ad) L.length c]).run Try.prog w = .ok u' w' ∧ Owns R B w' u' (M ++ L) ∧ w.grownBy w' u.ownBlock ∧ (u'.ownBlock = u.ownBlock ∨ u'.ownBlock = some w.heap.size) := by
    intro ad c hc
    obtain ⟨u', w', h1, h2, h3, _, h5⟩ := run_append_own_at (P := Try.prog) w B R.st R.st R.ty i _ R.n R.bytes k.slice hi hz hs6 hby (k.len _) k.pos u M.length (M.flatMap R.cells) h ad L.length c (L.flatMap R.cells) (recs_length k L) hc (recs_one k L) (by simp only [maxLen]; omega) (by omega) hB
    refine ⟨u', w', h1, ?_, h3, h5⟩
    show w'.ownsRow B R.ty R.n u' (M ++ L).length ((M ++ L).flatMap R.cells)
    rw [List.flatMap_append, List.length_append]
    exact h2
  rcases hv with ⟨rfl, a, cap, rfl⟩ | ⟨b, off, cap, rfl, hr⟩
  · cases a with
    | none => exact ⟨u, w, run_append_nothing k w B u M h cap, by simpa using h, World.grownBy.refl _ _, .inl rfl⟩
    | some ad => exact main ad cap (fun j x hx => by simp at hx)
  · refine main ⟨b, off, none⟩ cap (fun j x hx => ?_)
    obtain ⟨i, y, m, h1, h2, h3⟩ := recs_get k L j x hx
    rw [Addr.add_mid, h3, ← Nat.add_assoc]
    exact hr i y h1 m x h2

theorem wp_append_all (k : R.Ok) {o : Oper} {a : Act} {w : World} {K : Act → World → Prop} {Q : Exit → Act → World → Prop} (s x : Operand)
    (ho : o.op = .call { callee := .builtin .append, args := #[s, x], argTypes := #[R.st, R.st] }) (hty : o.type = R.st) (B : Nat) (u v : Value) (M L : List α) (hs : a.eval s = u) (hx : a.eval x = v) (h : Owns R B w u M) (hv : Reads R w v L) (hl : M.length + L.length ≤ 1000000) (hB : B ≤ w.heap.size)
    (hK : ∀ u' w', Owns R B w' u' (M ++ L) → w.grownBy w' u.ownBlock → (u'.ownBlock = u.ownBlock ∨ u'.ownBlock = some w.heap.size) → K (a.put o.dst u') w') : o.wp Try.prog a w K Q := by
  obtain ⟨u', w', hr, h2, h3, h5⟩ := run_append_all k w B u v M L h hv hl hB
  unfold Oper.wp execOp
  simp only [ho, hty, resolve, invoke, builtin, Sem.run_bind, Sem.run_pure, Result.andThen_ok, List.map_toArray, List.map_cons, List.map_nil, hs, hx, hr]
  exact hK u' w' h2 h3 h5
theorem wl_append_all (k : R.Ok) {ops : Array Oper} {rest : List Oper} {o : Oper} {a : Act} {w : World} {Q : Exit → Act → World → Prop} (hgd : o.guard = none) (s x : Operand)
    (ho : o.op = .call { callee := .builtin .append, args := #[s, x], argTypes := #[R.st, R.st] }) (hty : o.type = R.st) (B : Nat) (u v : Value) (M L : List α) (hs : a.eval s = u) (hx : a.eval x = v) (h : Owns R B w u M) (hv : Reads R w v L) (hl : M.length + L.length ≤ 1000000) (hB : B ≤ w.heap.size)
    (hK : ∀ u' w', Owns R B w' u' (M ++ L) → w.grownBy w' u.ownBlock → (u'.ownBlock = u.ownBlock ∨ u'.ownBlock = some w.heap.size) → wpList Try.prog ops Q rest (a.put o.dst u') w') : wpList Try.prog ops Q (o :: rest) a w :=
  wpList_plain hgd fun _ hK2 => wp_append_all k s x ho hty B u v M L hs hx h hv hl hB fun u' w' h1 h2 h3 => hK2 _ _ (hK u' w' h1 h2 h3)

theorem wp_build_none_rec (k : R.Ok) {o : Oper} {a : Act} {w : World} {K : Act → World → Prop} {Q : Exit → Act → World → Prop} (ho : o.op = .buildSlice R.st 0 #[])
    (h : K (a.put o.dst (.slice (some ⟨w.heap.size, 0, none⟩) 0 0)) (w.alloc (.cells #[] R.ty))) : o.wp Try.prog a w K Q := by
  obtain ⟨i, hi, hz, hs6, hby⟩ := k.info
  unfold Oper.wp execOp
  simp [ho, Instr.buildSlice, run_underlying k.slice, sizeOf, typeInfo, hi, Instr.fill, newRow, Array.range_zero']
  exact h
theorem wp_build_rec (k : R.Ok) {o : Oper} {a : Act} {w : World} {K : Act → World → Prop} {Q : Exit → Act → World → Prop} (x : Operand)
    (ho : o.op = .buildSlice R.st 1 #[(0, x)]) (y : α) (hx : a.eval x = R.val y)
    (h : K (a.put o.dst (.slice (some ⟨w.heap.size, 0, none⟩) 1 1)) (w.alloc (.cells (R.val y).cells R.ty))) : o.wp Try.prog a w K Q := by
  obtain ⟨i, hi, hz, hs6, hby⟩ := k.info
  refine wp_buildSlice R.st R.ty 1 #[(0, x)] ho (R.val y).cells i _ k.slice hi hz (by rw [hs6]; have := k.small; omega) (by rw [hs6]; have := k.pos; omega) ?_ h
  exact build_one k i hs6 x a y hx

/-! ### a new variable -/
def freshR (R : Rec α) (w : World) (x : α) : World := (w.alloc (.cells (R.val R.zero).cells R.ty)).setCells w.heap.size 0 (R.cells x)
theorem freshR_there' (k : R.Ok) (w : World) (x : α) : (w.alloc (.cells (R.val R.zero).cells R.ty)).there w.heap.size 0 (R.cells x).length := by
  intro j hj
  rw [k.length] at hj
  refine ⟨?_, by unfold World.frozen?; simp only [heap_alloc_new w (.cells (R.val R.zero).cells R.ty)]; simp⟩
  rw [cell_of_row _ w.heap.size (0 + j) _ R.ty (0, 0) (heap_alloc_new _ _)]
  have := k.len R.zero
  simp; omega
theorem freshR_there (k : R.Ok) (w : World) (x : α) : (w.alloc (.cells (R.val R.zero).cells R.ty)).there w.heap.size 0 (R.cells x).toArray.size := by
  have := freshR_there' k w x
  simpa using this
theorem freshR_range (k : R.Ok) (w : World) (x : α) : (freshR R w x).rangeAt w.heap.size 0 (R.cells x) := World.rangeAt_setCells_same _ _ _ _ (freshR_there' k w x)
theorem freshR_below (w : World) (x : α) : Below w.heap.size w (freshR R w x) := ((Upd.refl [w.heap.size] _).setCells (by simp) _ _).toBelow ((Below.refl _ _).alloc (Nat.le_refl _) _) (by simp) (by simp)
theorem freshR_size (w : World) (x : α) : (freshR R w x).heap.size = w.heap.size + 1 := by unfold freshR; rw [Upd.size_setCells]; simp

/-! ### what came in -/
open Go.ChangeShapes Go.WideShapes Go.ChangeAt Go.Deep in
set_option maxRecDepth 100000 in
theorem openRecs (k : R.Ok) (hcells : Try.prog.cellsOf R.ty = R.n)
    (hopen : ∀ {H : Type} {enc : TypeId × Value → H} {W : World} {base fuel : Nat} {spare : Nat → Bool} {held : Bool} {cs : List Value} {x : DataW H × List MemPlace}, cs.length = R.n → DataW.trod enc Try.prog W base spare held fuel R.ty cs = some x → ∃ y : α, cs = R.cells y)
    {H : Type} {enc : TypeId × Value → H} {W : World} {b0 base : Nat} {r : Reach} {spare : Nat → Bool} {held : Bool} {v : Value} {d : DataW H} {p : List MemPlace}
    (hv : Value.okWide Try.prog W r b0 R.st v) (h : DataW.Trod enc Try.prog W base spare held R.st v d p) : ∃ L : List α, Reads R W v L := by
  obtain ⟨a0, len0, cap0, rfl⟩ := okWide_slice k.slice hv
  obtain ⟨fuel, hf⟩ := h
  rcases open_slice k.slice hf with ⟨hcs, _⟩ | ⟨a, len, cap, m, n, D, Pl, hcs, hb, hl, hm, hmm, hx, hi⟩
  · simp [Value.cells] at hcs
    obtain ⟨rfl, rfl, rfl⟩ := hcs
    exact ⟨[], .inl ⟨rfl, none, 0, rfl⟩⟩
  · simp [Value.cells] at hcs
    obtain ⟨rfl, rfl, rfl⟩ := hcs
    rw [hcells] at hi
    have hlm : len0 ≤ m := by rw [hmm]; split <;> omega
    have hy : ∀ i, i < len0 → ∃ y : α, ∀ j u, (R.cells y)[j]? = some u → W.cell? ((a.add (i * R.n)).add j) = some u := by
      intro i hil
      obtain ⟨cs', hc, ht'⟩ := hi i (by omega)
      obtain ⟨_, hcl, hat⟩ := World.cells?_some hc
      obtain ⟨y, rfl⟩ := hopen hcl ht'
      exact ⟨y, fun j u hu => by rw [hat j (by rw [← hcl]; exact (List.getElem?_eq_some_iff.1 hu).1), hu]⟩
    by_cases h0 : len0 = 0
    · subst h0; exact ⟨[], .inl ⟨rfl, _, _, rfl⟩⟩
    · have hs : a.spot = none := by
        obtain ⟨y, h1⟩ := hy 0 (by omega)
        obtain ⟨u, hu⟩ : ∃ u, (R.cells y)[0]? = some u := ⟨_, List.getElem?_eq_getElem (by rw [k.length]; exact k.pos)⟩
        have h2 := h1 0 u hu
        simpa [Addr.add] using World.cell?_spot h2
      obtain ⟨b, off, sp⟩ := a
      simp only at hs
      subst hs
      let f : Nat → α := fun i => if h : i < len0 then Classical.choose (hy i h) else R.zero
      refine ⟨(List.range len0).map f, .inr ⟨b, off, cap0, by simp, fun i y hiy => ?_⟩⟩
      have hil : i < len0 := by have := (List.getElem?_eq_some_iff.1 hiy).1; simpa using this
      have hfy : f i = y := by simpa [hil] using hiy
      have hf2 : f i = Classical.choose (hy i hil) := dif_pos hil
      intro j u hu
      rw [← hfy, hf2] at hu
      have := Classical.choose_spec (hy i hil) j u hu
      rwa [Addr.add_mid, Addr.add_mid] at this
end
end Go.Proofs.Ytogajmbkjojdhaa
