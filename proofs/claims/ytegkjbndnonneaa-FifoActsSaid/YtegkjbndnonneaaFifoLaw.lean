/- Queues of operations: items, chains in memory, and the plain law. -/
import Derived.Test.YtegkjbndnonneaaRec
import Derived.Test.YtegkjbndnonneaaMap
set_option linter.unusedVariables false
namespace Go.Proofs.Ytegkjbndnonneaa
open Go.RowKit

/-- An operation and its cost. -/
structure It where
  id : Int
  cost : Int
deriving DecidableEq
def itR : Rec It := ⟨32, 26, 2, 16, fun x => .agg #[.int .i64 x.id, .int .i64 x.cost], ⟨0, 0⟩⟩
theorem itOk : itR.Ok where
  pos := by decide
  small := by decide
  bsmall := by decide
  len := fun _ => rfl
  one := by
    intro x v hv
    simp [Rec.cells, itR, Value.cells] at hv
    rcases hv with rfl | rfl <;> rfl
  slice := Try.underlying26
  info := ⟨_, rfl, rfl, rfl, rfl⟩
  fill := by
    intro y
    rw [show ((Array.range (1 * itR.n)).map (fun x => (itR.val itR.zero).cells[x % (itR.val itR.zero).cells.size]!)) = #[.int .i64 0, .int .i64 0] from by apply Array.toList_inj.1; rw [Array.toList_map, Array.toList_range]; rfl]
    simp [Instr.fill, Value.cells, itR]
theorem it_part0 (x : It) (w : World) : (part 3 (itR.cells x).toArray 0).run Try.prog w = .ok (.int .i64 x.id) w := by
  have ht : (isAgg 3).run Try.prog w = .ok false w := by kernel_rfl
  simp [part, ht, Rec.cells, itR, Value.cells]
theorem it_part1 (x : It) (w : World) : (part 3 (itR.cells x).toArray 1).run Try.prog w = .ok (.int .i64 x.cost) w := by
  have ht : (isAgg 3).run Try.prog w = .ok false w := by kernel_rfl
  simp [part, ht, Rec.cells, itR, Value.cells]
theorem it_eq (d : Nat) (x y : It) (w : World) : (Op.equalIn (d + 2) 32 (.agg (itR.cells x).toArray) (.agg (itR.cells y).toArray)).run Try.prog w = .ok (decide (x = y)) w := by
  have h0 : Try.prog.stoodInHeld 32 = false := by kernel_rfl
  unfold Op.equalIn
  simp only [Sem.run_bind, run_underlying Try.underlying32, Result.andThen_ok]
  simp [Sem.run_bind, h0, it_part0, it_part1, run_equalIn_int w d 3 .i64 .i64 _ _ Try.underlying3]
  obtain ⟨a1, a2⟩ := x
  obtain ⟨b1, b2⟩ := y
  simp only [It.mk.injEq]
  by_cases h1 : a1 = b1 <;> by_cases h2 : a2 = b2 <;> simp [h1, h2]
theorem itGuard : Try.prog.eqGuardType Try.prog.depth 32 = false := by kernel_rfl

/-! ### blocks of four cells -/
structure Four (w : World) (b : Nat) (v0 v1 v2 v3 : Value) : Prop where
  c0 : w.cell? ⟨b, 0, none⟩ = some v0
  c1 : w.cell? ⟨b, 1, none⟩ = some v1
  c2 : w.cell? ⟨b, 2, none⟩ = some v2
  c3 : w.cell? ⟨b, 3, none⟩ = some v3
  f0 : w.frozen? ⟨b, 0, none⟩ = false
  f1 : w.frozen? ⟨b, 1, none⟩ = false
  f2 : w.frozen? ⟨b, 2, none⟩ = false
  f3 : w.frozen? ⟨b, 3, none⟩ = false
namespace Four
variable {w w' : World} {b : Nat} {v0 v1 v2 v3 : Value}
theorem upd {F : List Nat} (h : Four w b v0 v1 v2 v3) (hu : Upd F w w') (hb : b ∉ F) : Four w' b v0 v1 v2 v3 :=
  ⟨hu.cell hb h.c0, hu.cell hb h.c1, hu.cell hb h.c2, hu.cell hb h.c3, (hu.frozen hb h.c0).trans h.f0, (hu.frozen hb h.c1).trans h.f1, (hu.frozen hb h.c2).trans h.f2, (hu.frozen hb h.c3).trans h.f3⟩
theorem below (h : Four w b v0 v1 v2 v3) (hu : Below w.heap.size w w') : Four w' b v0 v1 v2 v3 := h.upd (Upd.ofBelow [] hu) (by simp)
theorem lt (h : Four w b v0 v1 v2 v3) : b < w.heap.size := World.block_lt_of_cell? w _ h.c0
theorem far (h : Four w b v0 v1 v2 v3) {p : Addr} (hp : b ≠ p.block) (v : Value) : Four (w.setCell p v) b v0 v1 v2 v3 :=
  h.upd (F := [p.block]) ((Upd.refl _ _).setCell (by simp) v) (by simpa using hp)
theorem set0 (h : Four w b v0 v1 v2 v3) (v : Value) : Four (w.setCell ⟨b, 0, none⟩ v) b v v1 v2 v3 := by
  refine ⟨?_, ?_, ?_, ?_, ?_, ?_, ?_, ?_⟩
  · rw [World.cell?_setCell_same _ _ _ h.c0]
  · rw [World.cell?_setCell_other _ _ _ _ (by simp)]; exact h.c1
  · rw [World.cell?_setCell_other _ _ _ _ (by simp)]; exact h.c2
  · rw [World.cell?_setCell_other _ _ _ _ (by simp)]; exact h.c3
  all_goals rw [World.frozen?_setCell]
  · exact h.f0
  · exact h.f1
  · exact h.f2
  · exact h.f3
theorem set1 (h : Four w b v0 v1 v2 v3) (v : Value) : Four (w.setCell ⟨b, 1, none⟩ v) b v0 v v2 v3 := by
  refine ⟨?_, ?_, ?_, ?_, ?_, ?_, ?_, ?_⟩
  · rw [World.cell?_setCell_other _ _ _ _ (by simp)]; exact h.c0
  · rw [World.cell?_setCell_same _ _ _ h.c1]
  · rw [World.cell?_setCell_other _ _ _ _ (by simp)]; exact h.c2
  · rw [World.cell?_setCell_other _ _ _ _ (by simp)]; exact h.c3
  all_goals rw [World.frozen?_setCell]
  · exact h.f0
  · exact h.f1
  · exact h.f2
  · exact h.f3
theorem set2 (h : Four w b v0 v1 v2 v3) (v : Value) : Four (w.setCell ⟨b, 2, none⟩ v) b v0 v1 v v3 := by
  refine ⟨?_, ?_, ?_, ?_, ?_, ?_, ?_, ?_⟩
  · rw [World.cell?_setCell_other _ _ _ _ (by simp)]; exact h.c0
  · rw [World.cell?_setCell_other _ _ _ _ (by simp)]; exact h.c1
  · rw [World.cell?_setCell_same _ _ _ h.c2]
  · rw [World.cell?_setCell_other _ _ _ _ (by simp)]; exact h.c3
  all_goals rw [World.frozen?_setCell]
  · exact h.f0
  · exact h.f1
  · exact h.f2
  · exact h.f3
theorem set3 (h : Four w b v0 v1 v2 v3) (v : Value) : Four (w.setCell ⟨b, 3, none⟩ v) b v0 v1 v2 v := by
  refine ⟨?_, ?_, ?_, ?_, ?_, ?_, ?_, ?_⟩
  · rw [World.cell?_setCell_other _ _ _ _ (by simp)]; exact h.c0
  · rw [World.cell?_setCell_other _ _ _ _ (by simp)]; exact h.c1
  · rw [World.cell?_setCell_other _ _ _ _ (by simp)]; exact h.c2
  · rw [World.cell?_setCell_same _ _ _ h.c3]
  all_goals rw [World.frozen?_setCell]
  · exact h.f0
  · exact h.f1
  · exact h.f2
  · exact h.f3
theorem new (w : World) (t : TypeId) (v0 v1 v2 v3 : Value) : Four (w.alloc (.cells #[v0, v1, v2, v3] t)) w.heap.size v0 v1 v2 v3 := by
  have h := heap_alloc_new w (.cells #[v0, v1, v2, v3] t)
  refine ⟨?_, ?_, ?_, ?_, ?_, ?_, ?_, ?_⟩
  · rw [cell_of_row _ w.heap.size 0 _ t (0, 0) h]; rfl
  · rw [cell_of_row _ w.heap.size 1 _ t (0, 0) h]; rfl
  · rw [cell_of_row _ w.heap.size 2 _ t (0, 0) h]; rfl
  · rw [cell_of_row _ w.heap.size 3 _ t (0, 0) h]; rfl
  all_goals (unfold World.frozen?; simp only [h]; simp)
theorem first (h : Four w b v0 v1 v2 v3) : w.rangeAt b 0 [v0, v1] := fun j v hv => by
  match j, hv with
  | 0, hv => cases hv; exact h.c0
  | 1, hv => cases hv; exact h.c1
  | j + 2, hv => simp at hv
end Four

/-! ### chains -/
/-- A link's block and its item. -/
abbrev Lk := Nat × It
def ptr (o : Option Lk) : Value := .pointer (o.map fun p => ⟨p.1, 0, none⟩)
def pv (G : List Lk) : Nat → Value
  | 0 => .pointer none
  | i + 1 => ptr G[i]?
def nx (G : List Lk) (i : Nat) : Value := ptr G[i + 1]?
def Ch (w : World) (G : List Lk) (A B : Nat → Value) : Prop := ∀ i g x, G[i]? = some (g, x) → Four w g (.int .i64 x.id) (.int .i64 x.cost) (A i) (B i)
def blocks (G : List Lk) : List Nat := G.map (·.1)
def its (G : List Lk) : List It := G.map (·.2)

section
variable {w w' : World} {G : List Lk} {A B : Nat → Value}
theorem mem_blocks {i g : Nat} {x : It} (h : G[i]? = some (g, x)) : g ∈ blocks G := List.mem_map.2 ⟨_, List.mem_of_getElem? h, rfl⟩
theorem Ch.upd {F : List Nat} (h : Ch w G A B) (hu : Upd F w w') (hF : ∀ g ∈ blocks G, g ∉ F) : Ch w' G A B := fun i g x hx => (h i g x hx).upd hu (hF g (mem_blocks hx))
theorem Ch.congr {A' B' : Nat → Value} (h : Ch w G A B) (hA : ∀ i, i < G.length → A i = A' i) (hB : ∀ i, i < G.length → B i = B' i) : Ch w G A' B' := fun i g x hx => by
  have hi := (List.getElem?_eq_some_iff.1 hx).1
  rw [← hA i hi, ← hB i hi]
  exact h i g x hx
theorem nodup_at (hn : (blocks G).Nodup) {i j g : Nat} {x y : It} (hi : G[i]? = some (g, x)) (hj : G[j]? = some (g, y)) : i = j := by
  have h1 : (blocks G)[i]? = some g := by unfold blocks; rw [List.getElem?_map, hi]; rfl
  have h2 : (blocks G)[j]? = some g := by unfold blocks; rw [List.getElem?_map, hj]; rfl
  have hl := (List.getElem?_eq_some_iff.1 h1).1
  exact (List.getElem?_inj hl hn).1 (h1.trans h2.symm)
theorem Ch.setA (h : Ch w G A B) (hn : (blocks G).Nodup) {k g : Nat} {x : It} (hk : G[k]? = some (g, x)) (v : Value) : Ch (w.setCell ⟨g, 2, none⟩ v) G (fun i => if i = k then v else A i) B := fun i g' y hi => by
  dsimp only
  by_cases e : i = k
  · subst e
    rw [hk] at hi
    cases hi
    rw [if_pos rfl]
    exact (h i g x hk).set2 v
  · rw [if_neg e]
    exact (h i g' y hi).far (fun e2 => e (by subst e2; exact nodup_at hn hi hk)) v
theorem Ch.setB (h : Ch w G A B) (hn : (blocks G).Nodup) {k g : Nat} {x : It} (hk : G[k]? = some (g, x)) (v : Value) : Ch (w.setCell ⟨g, 3, none⟩ v) G A (fun i => if i = k then v else B i) := fun i g' y hi => by
  dsimp only
  by_cases e : i = k
  · subst e
    rw [hk] at hi
    cases hi
    rw [if_pos rfl]
    exact (h i g x hk).set3 v
  · rw [if_neg e]
    exact (h i g' y hi).far (fun e2 => e (by subst e2; exact nodup_at hn hi hk)) v
theorem erase_at (G : List Lk) (k i : Nat) : (G.eraseIdx k)[i]? = G[if i < k then i else i + 1]? := by
  rw [List.getElem?_eraseIdx]
  split <;> rfl
theorem Ch.erase (h : Ch w G A B) (k : Nat) : Ch w (G.eraseIdx k) (fun i => A (if i < k then i else i + 1)) (fun i => B (if i < k then i else i + 1)) := fun i g x hi => by
  rw [erase_at] at hi
  exact h _ g x hi
theorem Ch.snoc (h : Ch w G A B) {g : Nat} {x : It} {a b : Value} (hg : Four w g (.int .i64 x.id) (.int .i64 x.cost) a b) : Ch w (G ++ [(g, x)]) (fun i => if i < G.length then A i else a) (fun i => if i < G.length then B i else b) := fun i g' y hi => by
  dsimp only
  by_cases hl : i < G.length
  · rw [List.getElem?_append_left hl] at hi
    rw [if_pos hl, if_pos hl]
    exact h i g' y hi
  · rw [List.getElem?_append_right (by omega)] at hi
    rw [if_neg hl, if_neg hl]
    cases hd : i - G.length with
    | zero => rw [hd] at hi; cases hi; exact hg
    | succ n => rw [hd] at hi; simp at hi

/-- What the links point to, once one is taken out. -/
theorem drop_pv {k : Nat} (hk : k < G.length) (i : Nat) (hi : i < (G.eraseIdx k).length) :
    (fun i => (fun i => if i = k + 1 then pv G k else pv G i) (if i < k then i else i + 1)) i = pv (G.eraseIdx k) i := by
  dsimp only
  rw [List.length_eraseIdx_of_lt hk] at hi
  by_cases h1 : i < k
  · rw [if_pos h1, if_neg (by omega)]
    cases i with
    | zero => rfl
    | succ j => show ptr G[j]? = ptr (G.eraseIdx k)[j]?; rw [erase_at, if_pos (by omega)]
  · rw [if_neg h1]
    by_cases h2 : i = k
    · subst h2
      rw [if_pos rfl]
      cases i with
      | zero => rfl
      | succ j => show ptr G[j]? = ptr (G.eraseIdx (j + 1))[j]?; rw [erase_at, if_pos (by omega)]
    · rw [if_neg (by omega)]
      cases i with
      | zero => omega
      | succ j => show ptr G[j + 1]? = ptr (G.eraseIdx k)[j]?; rw [erase_at, if_neg (by omega)]
theorem drop_nx {k : Nat} (hk : k < G.length) (i : Nat) (hi : i < (G.eraseIdx k).length) :
    (fun i => (fun i => if i + 1 = k then nx G k else nx G i) (if i < k then i else i + 1)) i = nx (G.eraseIdx k) i := by
  dsimp only
  unfold nx
  rw [erase_at]
  by_cases h1 : i < k
  · rw [if_pos h1]
    by_cases h2 : i + 1 = k
    · rw [if_pos h2, if_neg (by omega), h2]
    · rw [if_neg h2, if_pos (by omega)]
  · rw [if_neg h1, if_neg (by omega), if_neg (by omega)]
theorem push_pv (G : List Lk) (p : Lk) (i : Nat) (hi : i < (G ++ [p]).length) : (fun i => if i < G.length then pv G i else pv (G ++ [p]) G.length) i = pv (G ++ [p]) i := by
  dsimp only
  simp at hi
  by_cases h1 : i < G.length
  · rw [if_pos h1]
    cases i with
    | zero => rfl
    | succ j => show ptr G[j]? = ptr (G ++ [p])[j]?; rw [List.getElem?_append_left (by omega)]
  · rw [if_neg h1, show i = G.length by omega]
theorem push_nx (G : List Lk) (p : Lk) (i : Nat) (hi : i < (G ++ [p]).length) : (fun i => if i < G.length then (fun i => if i + 1 = G.length then ptr (some p) else nx G i) i else .pointer none) i = nx (G ++ [p]) i := by
  dsimp only
  simp at hi
  unfold nx
  by_cases h1 : i < G.length
  · rw [if_pos h1]
    by_cases h2 : i + 1 = G.length
    · rw [if_pos h2, List.getElem?_append_right (by omega), h2]; simp
    · rw [if_neg h2, List.getElem?_append_left (by omega)]
  · rw [if_neg h1, List.getElem?_append_right (by omega)]
    have : i + 1 - G.length = 1 := by omega
    rw [this]; rfl
end

/-! ### what the table tells -/
def mf : List Lk → Int → Option Value
  | [], _ => none
  | p :: r, k => if p.2.id = k then some (ptr (some p)) else mf r k
theorem mf_none {G : List Lk} {k : Int} (h : ∀ x ∈ its G, x.id ≠ k) : mf G k = none := by
  induction G with
  | nil => rfl
  | cons p r ih =>
    unfold mf
    rw [if_neg (h p.2 (by simp [its]))]
    exact ih (fun x hx => h x (by simp [its] at hx ⊢; exact .inr hx))
theorem mf_at {G : List Lk} (hn : ((its G).map It.id).Nodup) {i g : Nat} {x : It} (h : G[i]? = some (g, x)) : mf G x.id = some (ptr (some (g, x))) := by
  induction G generalizing i with
  | nil => simp at h
  | cons p r ih =>
    unfold mf
    simp only [its, List.map_cons, List.nodup_cons] at hn
    cases i with
    | zero => cases h; rw [if_pos rfl]
    | succ j =>
      rw [if_neg, ih hn.2 h]
      intro e
      apply hn.1
      rw [e]
      exact List.mem_map.2 ⟨x, List.mem_map.2 ⟨(g, x), List.mem_of_getElem? h, rfl⟩, rfl⟩
theorem mf_snoc (G : List Lk) (p : Lk) (h : ∀ x ∈ its G, x.id ≠ p.2.id) (k : Int) : mf (G ++ [p]) k = if k = p.2.id then some (ptr (some p)) else mf G k := by
  induction G with
  | nil =>
    simp only [List.nil_append, mf]
    by_cases e : p.2.id = k
    · rw [if_pos e, if_pos e.symm]
    · rw [if_neg e, if_neg (Ne.symm e)]
  | cons q r ih =>
    rw [List.cons_append]
    unfold mf
    rw [ih (fun x hx => h x (by simp [its] at hx ⊢; exact .inr hx))]
    by_cases e : q.2.id = k
    · rw [if_pos e, if_pos e, if_neg]
      intro e2
      exact h q.2 (by simp [its]) (e.trans e2)
    · rw [if_neg e, if_neg e]
theorem mf_erase {G : List Lk} (hn : ((its G).map It.id).Nodup) {i g : Nat} {x : It} (h : G[i]? = some (g, x)) (k : Int) : mf (G.eraseIdx i) k = if k = x.id then none else mf G k := by
  induction G generalizing i with
  | nil => simp at h
  | cons p r ih =>
    have hn' := hn
    simp only [its, List.map_cons, List.nodup_cons] at hn
    cases i with
    | zero =>
      cases h
      rw [List.eraseIdx_zero, List.tail_cons]
      conv => rhs; unfold mf
      by_cases e : k = x.id
      · rw [if_pos e]
        refine mf_none (fun y hy e2 => hn.1 ?_)
        rw [← e, ← e2]
        exact List.mem_map.2 ⟨y, hy, rfl⟩
      · rw [if_neg e, if_neg (Ne.symm e)]
    | succ j =>
      rw [List.eraseIdx_cons_succ]
      unfold mf
      rw [ih hn.2 h]
      by_cases e : p.2.id = k
      · rw [if_pos e, if_pos e, if_neg]
        intro e2
        apply hn.1
        rw [e, e2]
        exact List.mem_map.2 ⟨x, List.mem_map.2 ⟨(g, x), List.mem_of_getElem? h, rfl⟩, rfl⟩
      · rw [if_neg e, if_neg e]

end Go.Proofs.Ytegkjbndnonneaa
