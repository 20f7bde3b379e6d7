/- The contracts of dead's functions, going on: New, All. -/
import Derived.Test.YtchkbbkcflmcmaaDeadWalks
import Derived.OwnWalk
import Derived.Great.BuildSlice
set_option linter.unusedVariables false
namespace Go.Proofs.Ytchkbbkcflmcmaa
open Go.RowKit

/-- A slice of its own that has these letters. -/
def Own (B : Nat) (w : World) (v : Value) (L : List Let) : Prop := w.ownsRow B 29 6 v L.length (L.flatMap Let.cells)

theorem flat_length (L : List Let) : (L.flatMap Let.cells).length = L.length * 6 := by
  induction L with
  | nil => rfl
  | cons x L ih => simp only [List.flatMap_cons, List.length_append, ih, List.length_cons]; show 6 + L.length * 6 = _; omega

theorem flat_at (L : List Let) : ∀ (i : Nat) (x : Let) (j : Nat) (v : Value), L[i]? = some x → x.cells[j]? = some v → (L.flatMap Let.cells)[i * 6 + j]? = some v := by
  induction L with
  | nil => intro i x j v h; simp at h
  | cons y L ih =>
    intro i x j v h hv
    cases i with
    | zero =>
      simp at h
      subst h
      have hj : j < 6 := (List.getElem?_eq_some_iff.1 hv).1
      rw [List.flatMap_cons, List.getElem?_append_left (by show 0 * 6 + j < 6; omega), Nat.zero_mul, Nat.zero_add]
      exact hv
    | succ i =>
      simp at h
      rw [List.flatMap_cons, List.getElem?_append_right (by show 6 ≤ _; omega), show (i + 1) * 6 + j - y.cells.length = i * 6 + j by show _ - 6 = _; omega]
      exact ih i x j v h hv

theorem Own.out {B : Nat} {w : World} {v : Value} {L : List Let} (h : Own B w v L) (F : List Nat) (hF : ∀ i ∈ F, i < B) : LtsOut F w v L := by
  rcases h.2 with ⟨rfl, h0⟩ | ⟨g, cap, cur, rfl, hb, hg, hn, hm, hs, ht⟩
  · left
    exact ⟨List.eq_nil_of_length_eq_zero h0, none, 0, rfl⟩
  · right
    refine ⟨g, 0, cap, rfl, fun hin => by have := hF g hin; omega, fun i x hx j v hv => ?_⟩
    rw [cell_of_row w g _ cur _ (0, 0) hg]
    have h1 := flat_at L i x j v hx hv
    rw [← ht, List.getElem?_take] at h1
    split at h1
    · simpa using h1
    · cases h1
theorem Own.lts {B : Nat} {w : World} {v : Value} {L : List Let} (h : Own B w v L) : Lts w v L := (h.out [] (by simp)).lts

theorem Own.nil (B : Nat) (w : World) : Own B w (.slice none 0 0) [] := ⟨rfl, .inl ⟨rfl, rfl⟩⟩
theorem Own.lt {B : Nat} {w : World} {v : Value} {L : List Let} (h : Own B w v L) : ∀ k, v.ownBlock = some k → B ≤ k ∧ k < w.heap.size := by
  intro k hk
  rcases h.2 with ⟨rfl, h0⟩ | ⟨g, cap, cur, rfl, hb, hg, hn, hm, hs, ht⟩
  · cases hk
  · simp [Value.ownBlock] at hk
    subst hk
    exact ⟨hb, (Array.getElem?_eq_some_iff.1 hg).1⟩
theorem Own.upd {F : List Nat} {B : Nat} {w w' : World} {v : Value} {L : List Let} (h : Own B w v L) (hb : Upd F w w') (hF : ∀ k, v.ownBlock = some k → k ∉ F) : Own B w' v L := by
  refine ⟨h.1, ?_⟩
  rcases h.2 with h0 | ⟨g, cap, cur, rfl, hb2, hg, hn, hm, hs, ht⟩
  · exact .inl h0
  · exact .inr ⟨g, cap, cur, rfl, hb2, hb.heap (hF g rfl) hg, hn, hm, hs, ht⟩
theorem Own.below {B : Nat} {w w' : World} {v : Value} {L : List Let} (h : Own B w v L) (hb : Below w.heap.size w w') : Own B w' v L := h.upd (Upd.ofBelow [] hb) (by simp)


theorem flat_snoc (L : List Let) (y : Let) : (L ++ [y]).flatMap Let.cells = L.flatMap Let.cells ++ y.cells := by simp

/-- One letter more behind a slice of one's own. -/
theorem wl_append_let {ops : Array Oper} {rest : List Oper} {o : Oper} {a : Act} {w : World} {Q : Exit → Act → World → Prop} (hgd : o.guard = none) (s x : Operand)
    (ho : o.op = .call { callee := .builtin .append, args := #[s, x], argTypes := #[26, 26] }) (B : Nat) (v : Value) (L : List Let) (hs : a.eval s = v) (hown : Own B w v L)
    (b off c : Nat) (y : Let) (hx : a.eval x = .slice (some ⟨b, off, none⟩) 1 c) (hr : w.rangeAt b off y.cells) (hlen : L.length < 1000000) (hB : B ≤ w.heap.size)
    (h : ∀ g cap w', Own B w' (.slice (some ⟨g, 0, none⟩) (L.length + 1) cap) (L ++ [y]) → w.grownBy w' v.ownBlock → wpList Try.prog ops Q rest (a.put o.dst (.slice (some ⟨g, 0, none⟩) (L.length + 1) cap)) w') : wpList Try.prog ops Q (o :: rest) a w := by
  obtain ⟨i, z, hi, hz, hs6, hby, hzs⟩ : ∃ i z, Try.prog.info? 29 = some i ∧ i.zero = some z ∧ i.size = 6 ∧ i.bytes = 56 ∧ z.cells.size = 6 := ⟨_, _, rfl, rfl, rfl, rfl, rfl⟩
  refine wpList_append_lies w hgd s x 26 ho B 29 i z 6 56 Try.underlying26 hi hz hs6 hby hzs (by omega) v L.length (L.flatMap Let.cells) hs hown ⟨b, off, none⟩ 1 c y.cells hx rfl
    (fun j u hu => by rw [Addr.add_mid]; exact hr j u hu) (let_one y) (by omega) (by simp only [maxLen]; omega) (by omega) hB _ rfl ?_
  intro g cap w' hown' hg _ _
  refine h g cap w' ?_ hg
  show w'.ownsRow B 29 6 _ (L ++ [y]).length ((L ++ [y]).flatMap Let.cells)
  rw [flat_snoc, show (L ++ [y]).length = L.length + 1 by simp]
  exact hown'

theorem zero_six : (Array.range (1 * 6)).map (fun x => (Value.agg zeroLet.cells.toArray).cells[x % (Value.agg zeroLet.cells.toArray).cells.size]!) = #[.int .i64 0, .int .i64 0, .int .i64 0, .int .i64 0, .string ⟨#[]⟩, .int .u64 0] := by
  apply Array.toList_inj.1
  rw [Array.toList_map, Array.toList_range]
  rfl
theorem let_fill (y : Let) : Instr.fill (fun i => some (i * 6, 6)) ((Array.range (1 * 6)).map (fun x => (Value.agg zeroLet.cells.toArray).cells[x % (Value.agg zeroLet.cells.toArray).cells.size]!)) [(0, .agg y.cells.toArray)] = some y.cells.toArray := by
  rw [zero_six]
  simp [Instr.fill, Value.cells, Let.cells]

/-- A slice of one letter. -/
theorem wl_build_let {ops : Array Oper} {rest : List Oper} {o : Oper} {a : Act} {w : World} {Q : Exit → Act → World → Prop} (hgd : o.guard = none) (x : Operand)
    (ho : o.op = .buildSlice 26 1 #[(0, x)]) (y : Let) (hx : a.eval x = .agg y.cells.toArray)
    (h : wpList Try.prog ops Q rest (a.put o.dst (.slice (some ⟨w.heap.size, 0, none⟩) 1 1)) (w.alloc (.cells y.cells.toArray 29))) : wpList Try.prog ops Q (o :: rest) a w := by
  obtain ⟨i, hi, hz, hs6⟩ : ∃ i, Try.prog.info? 29 = some i ∧ i.zero = some (.agg zeroLet.cells.toArray) ∧ i.size = 6 := ⟨_, rfl, rfl, rfl⟩
  refine wpList_buildSlice hgd 26 29 1 #[(0, x)] ho y.cells.toArray i _ Try.underlying26 hi hz (by rw [hs6]; decide) (by rw [hs6]; decide) ?_ h
  rw [hs6]
  have e : (Array.map (fun x => (x.1, a.eval x.2)) #[(0, x)]).toList = [(0, .agg y.cells.toArray)] := by simp [hx]
  rw [show ((#[(0, x)] : Array (Nat × Operand)).map fun (i, x) => (i, a.eval x)).toList = [(0, .agg y.cells.toArray)] from e]
  exact let_fill y

end Go.Proofs.Ytchkbbkcflmcmaa
