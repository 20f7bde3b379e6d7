/- slices.Index, slices.Delete at ints, in memory of one's own. -/
import Derived.Test.YtkbjlpdmmbldpaaWhPut
set_option linter.unusedVariables false
set_option linter.unusedSimpArgs false
set_option maxRecDepth 100000
namespace Go.Proofs.Ytkbjlpdmmbldpaa
open Go.RowKit

theorem heap_setCell_row {w : World} {g i : Nat} {cur : Array Value} {T : TypeId} {fr : Nat × Nat} (h : w.heap[g]? = some (.cells cur T fr)) (u : Value) : (w.setCell ⟨g, i, none⟩ u).heap[g]? = some (.cells (cur.setIfInBounds i u) T fr) := by
  unfold World.setCell
  simp only [Array.getElem?_modify, if_pos, h, Option.map_some]
  rfl
theorem heap_setCells_row {g : Nat} {T : TypeId} {fr : Nat × Nat} : ∀ (vs : List Value) (o : Nat) (w : World) (cur : Array Value), w.heap[g]? = some (.cells cur T fr) → o + vs.length ≤ cur.size →
    ∃ cur', (w.setCells g o vs).heap[g]? = some (.cells cur' T fr) ∧ cur'.size = cur.size ∧ (∀ j, j < o → cur'[j]? = cur[j]?) ∧ ∀ j v, vs[j]? = some v → cur'[o + j]? = some v
  | [], o, w, cur, h, _ => ⟨cur, h, rfl, fun _ _ => rfl, fun j v hv => by simp at hv⟩
  | u :: r, o, w, cur, h, hl => by
    simp only [List.length_cons] at hl
    obtain ⟨cur', h1, h2, h3, h4⟩ := heap_setCells_row r (o + 1) (w.setCell ⟨g, o, none⟩ u) (cur.setIfInBounds o u) (heap_setCell_row h u) (by simp; omega)
    refine ⟨cur', h1, by simpa using h2, fun j hj => ?_, fun j v hv => ?_⟩
    · rw [h3 j (by omega), Array.getElem?_setIfInBounds_ne (by omega)]
    · cases j with
      | zero =>
        simp at hv
        subst hv
        rw [Nat.add_zero, h3 o (by omega)]
        rw [Array.getElem?_setIfInBounds_self_of_lt (by omega)]
      | succ j =>
        have := h4 j v (by simpa using hv)
        rwa [show o + 1 + j = o + (j + 1) from by omega] at this
theorem first_at {id : Int} : ∀ {L : List Int}, id ∈ L → ∃ k, k < L.length ∧ L.getD k 0 = id ∧ ∀ j, j < k → L.getD j 0 ≠ id
  | [], h => by cases h
  | x :: L, h => by
    by_cases hx : x = id
    · exact ⟨0, by simp, by simpa using hx, fun j hj => by omega⟩
    · rcases List.mem_cons.1 h with e | h
      · exact absurd e.symm hx
      · obtain ⟨k, h1, h2, h3⟩ := first_at h
        refine ⟨k + 1, by simp; omega, by simpa using h2, fun j hj => ?_⟩
        cases j with
        | zero => simpa using hx
        | succ j => simpa using h3 j (by omega)
theorem cellOf {w : World} {g : Nat} {cur : Array Value} {t : TypeId} {L : List Int} (hg : w.heap[g]? = some (.cells cur t (0, 0))) (ht : cur.toList.take L.length = L.map (.int .i64)) {j : Nat} (hj : j < L.length) : w.cell? ⟨g, j, none⟩ = some (.int .i64 (L.getD j 0)) := by
  rw [cell_of_row w g j _ _ _ hg]
  have h1 : (cur.toList.take L.length)[j]? = some (.int .i64 (L.getD j 0)) := by rw [ht]; simp [List.getD, hj]
  rw [List.getElem?_take_of_lt hj] at h1
  simpa using h1
theorem index_any {w : World} {v : Value} {L : List Int} {id : Int} (hv : Owns intR 0 w v L) (hid : id ∈ L) (hbig : L.length ≤ 100000) :
    Calls Try.prog 48 #[v, .int .i64 id] w fun e w' => ∃ k : Nat, e = .returned (.int .i64 (k : Int)) ∧ w = w' ∧ L[k]? = some id := by
  obtain ⟨k, h1, h2, h3⟩ := first_at hid
  have hk : L[k]? = some id := by rw [List.getElem?_eq_getElem h1]; simpa [List.getD, h1] using h2
  rcases hv.2 with ⟨-, h0⟩ | ⟨g, cap, cur, rfl, hb, hg, hn, hm, hs, ht⟩
  · omega
  · rw [int_flat] at ht
    simp only [intR, Nat.mul_one] at ht
    have hx := Try.slices_Index_int g 0 L.length cap L id w (Nat.le_refl _) (by omega) (fun j hj => by rw [Nat.zero_add]; exact cellOf hg ht hj)
    rw [Lib.idxOf_hit L L.length k id h1 (Nat.le_refl _) h2 h3] at hx
    exact hx.mono fun e w' ⟨he, hw⟩ => ⟨k, he, hw.symm, hk⟩
def DelP (w : World) (v : Value) (L : List Int) (i : Nat) (e : Ending) (w' : World) : Prop := ∃ a c, e = .returned (.slice a (L.length - 1) c) ∧ (Value.slice a (L.length - 1) c).ownBlock = v.ownBlock ∧ Owns intR 0 w' (.slice a (L.length - 1) c) (L.take i ++ L.drop (i + 1)) ∧ Upd v.ownBlock.toList w w'
theorem delete_any {w : World} {v : Value} {L : List Int} {i : Nat} (hv : Owns intR 0 w v L) (hi : i < L.length) (hbig : L.length ≤ 100000) :
    Calls Try.prog 49 #[v, .int .i64 (i : Int), .int .i64 ((i + 1 : Nat) : Int)] w (DelP w v L i) := by
  rcases hv.2 with ⟨-, h0⟩ | ⟨g, cap, cur, rfl, hb, hg, hn, hm, hs, ht⟩
  · omega
  · rw [int_flat] at ht
    simp only [intR, Nat.mul_one] at ht hs hg
    have hcap : cap ≤ 9223372036854775807 := by unfold maxLen at hm; omega
    refine (Try.slices_Delete_int_cells g 0 L.length cap i (i + 1) L w (Nat.le_refl _) hn hcap (by omega) (by omega) (fun j hj => by rw [Nat.zero_add]; exact cellOf hg ht hj) (fun j hj => by unfold World.frozen?; simp only [hg]; simp)).mono ?_
    rintro e w' ⟨rfl, q, rfl⟩
    rw [List.take_length, show i + 1 - i = 1 from by omega]
    have hl : (L.take i ++ L.drop (i + 1) ++ List.replicate 1 0).length = L.length := by simp; omega
    obtain ⟨cur', h1, h2, h3, h4⟩ := heap_setCells_row (g := g) ((L.take i ++ L.drop (i + 1) ++ List.replicate 1 0).map (Value.int .i64)) 0 (w.drewN q) cur hg (by simp; omega)
    refine ⟨_, _, rfl, rfl, ⟨by rw [int_flat]; simp [intR], .inr ⟨g, cap, cur', ?_, hb, h1, ?_, hm, by rw [h2]; simpa [intR] using hs, ?_⟩⟩, ?_⟩
    · have : (L.take i ++ L.drop (i + 1)).length = L.length - 1 := by simp; omega
      rw [this]
    · simp; omega
    · rw [int_flat]
      simp only [intR, Nat.mul_one]
      apply List.ext_getElem?
      intro j
      by_cases hj : j < (L.take i ++ L.drop (i + 1)).length
      · rw [List.getElem?_take_of_lt hj]
        have h5 : ((L.take i ++ L.drop (i + 1) ++ List.replicate 1 0).map (Value.int .i64))[j]? = ((L.take i ++ L.drop (i + 1)).map (Value.int .i64))[j]? := by
          rw [List.getElem?_map, List.getElem?_map, List.getElem?_append_left hj]
        obtain ⟨u, hu⟩ : ∃ u, ((L.take i ++ L.drop (i + 1)).map (Value.int .i64))[j]? = some u := ⟨_, List.getElem?_eq_getElem (by simpa using hj)⟩
        have h6 := h4 j u (by rw [h5, hu])
        rw [hu]
        rw [Nat.zero_add] at h6
        simpa using h6
      · rw [List.getElem?_eq_none (by rw [List.length_take]; omega), List.getElem?_eq_none (by rw [List.length_map]; omega)]
    · have hu : Upd [g] w ((w.drewN q).setCells g 0 ((L.take i ++ L.drop (i + 1) ++ List.replicate 1 0).map (Value.int .i64))) := by
        have h0 : Upd [g] w (w.drewN q) := ⟨rfl, rfl, rfl, Nat.le_refl _, fun _ _ _ => rfl⟩
        exact h0.setCells (by simp) _ _
      simpa [Value.ownBlock] using hu
theorem wl_deleteF {κ : Type} [DecidableEq κ] {K : KeyK κ} (k0 : K.Ok) {ops : Array Oper} {rest : List Oper} {o : Oper} {a : Act} {w : World} {Q : Exit → Act → World → Prop} (hgd : o.guard = none) (m x : Operand) (t e : TypeId) (tys : Array TypeId) (htys : tys[0]? = some t) (ho : o.op = .call { callee := .builtin .delete, args := #[m, x], argTypes := tys })
    (ht : Try.prog.underlying t = some (.map K.ty e)) {b n : Nat} {f : κ → Option Value} (hm : a.eval m = .map (some b)) (h : MapF K w b f n) (k : κ) (hx : a.eval x = K.kv k)
    (hK : ∀ w', Upd [b] w w' → MapF K w' b (fun x => if x = k then none else f x) (if (f k).isSome then n - 1 else n) → wpList Try.prog ops Q rest (a.put o.dst (.tuple #[])) w') : wpList Try.prog ops Q (o :: rest) a w := by
  refine wpList_plain hgd fun K' hK' => ?_
  obtain ⟨w', hr, h1, h2⟩ := h.delete (ty := o.type) k0 htys ht k
  unfold Oper.wp
  simp only [execOp, ho, resolve, invoke, builtin, hm, hx, Sem.run_bind, Sem.run_pure, Result.andThen_ok, List.map_toArray, List.map_cons, List.map_nil, hr]
  exact hK' _ _ (hK w' h1 h2)
end Go.Proofs.Ytkbjlpdmmbldpaa
