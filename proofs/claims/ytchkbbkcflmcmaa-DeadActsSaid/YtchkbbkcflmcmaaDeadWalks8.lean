/- The reference's Put: two appends in a region that draws its order. -/
import Derived.Test.YtchkbbkcflmcmaaDeadWalks7
import Derived.Test.YtchkbbkcflmcmaaInv
import Derived.Maps.AppendAt
set_option linter.unusedVariables false
namespace Go.Proofs.Ytchkbbkcflmcmaa
open Go.RowKit

theorem flat_get (L : List Let) : ∀ (j : Nat) (u : Value), (L.flatMap Let.cells)[j]? = some u → ∃ i x k, L[i]? = some x ∧ x.cells[k]? = some u ∧ j = i * 6 + k := by
  induction L with
  | nil => intro j u h; simp at h
  | cons y L ih =>
    intro j u h
    rw [List.flatMap_cons] at h
    have h6 : y.cells.length = 6 := rfl
    by_cases hj : j < 6
    · rw [List.getElem?_append_left (by omega)] at h
      exact ⟨0, y, j, rfl, h, by omega⟩
    · rw [List.getElem?_append_right (by omega), h6] at h
      obtain ⟨i, x, k, h1, h2, h3⟩ := ih (j - 6) u h
      exact ⟨i + 1, x, k, by simpa using h1, h2, by omega⟩

theorem flat_one (L : List Let) : ∀ u ∈ L.flatMap Let.cells, u.oneCell' = true := by
  intro u hu
  obtain ⟨x, _, hx⟩ := List.mem_flatMap.1 hu
  exact let_one x u hx

theorem run_append_none (w : World) (B : Nat) (u : Value) (M : List Let) (h : Own B w u M) (c : Nat) : (Builtin.append_ #[26, 26] 26 #[u, .slice none 0 c]).run Try.prog w = .ok u w := by
  obtain ⟨i, hi, hs6⟩ : ∃ i, Try.prog.info? 29 = some i ∧ i.size = 6 := ⟨_, rfl, rfl⟩
  rcases h.2 with ⟨rfl, h0⟩ | ⟨g, cap, cur, rfl, hb, hg, hn, hm, hs, ht⟩
  · simp [Builtin.append_, run_underlying Try.underlying26, sizeOf, typeInfo, hi, Builtin.lenOf, Builtin.firstCells]
  · simp [Builtin.append_, run_underlying Try.underlying26, sizeOf, typeInfo, hi, Builtin.lenOf, Builtin.firstCells, hn, storeCells]

theorem run_append_lts (w : World) (B : Nat) (u v : Value) (M L : List Let) (h : Own B w u M) (hv : Lts w v L) (hl : M.length + L.length ≤ 1000000) (hB : B ≤ w.heap.size) :
    ∃ u' w', (Builtin.append_ #[26, 26] 26 #[u, v]).run Try.prog w = .ok u' w' ∧ Own B w' u' (M ++ L) ∧ w.grownBy w' u.ownBlock ∧ (u'.ownBlock = u.ownBlock ∨ u'.ownBlock = some w.heap.size) := by
  obtain ⟨i, z, hi, hz, hs6, hby, hzs⟩ : ∃ i z, Try.prog.info? 29 = some i ∧ i.zero = some z ∧ i.size = 6 ∧ i.bytes = 56 ∧ z.cells.size = 6 := ⟨_, _, rfl, rfl, rfl, rfl, rfl⟩
  have main : ∀ (ad : Addr) (c : Nat), (∀ j x, (L.flatMap Let.cells)[j]? = some x → w.cell? (ad.add j) = some x) → ∃ u' w', (Builtin.append_ #[26, 26] 26 #[u, .slice (some ad) L.length c]).run Try.prog w = .ok u' w' ∧ Own B w' u' (M ++ L) ∧ w.grownBy w' u.ownBlock ∧ (u'.ownBlock = u.ownBlock ∨ u'.ownBlock = some w.heap.size) := by
    intro ad c hc
    obtain ⟨u', w', h1, h2, h3, _, h5⟩ := run_append_own_at (P := Try.prog) w B 26 26 29 i z 6 56 Try.underlying26 hi hz hs6 hby hzs (by omega) u M.length (M.flatMap Let.cells) h ad L.length c (L.flatMap Let.cells) (flat_length L) hc (flat_one L) (by simp only [maxLen]; omega) (by omega) hB
    refine ⟨u', w', h1, ?_, h3, h5⟩
    show w'.ownsRow B 29 6 u' (M ++ L).length ((M ++ L).flatMap Let.cells)
    rw [List.flatMap_append, List.length_append]
    exact h2
  rcases hv with ⟨rfl, a, cap, rfl⟩ | ⟨b, off, cap, rfl, hr⟩
  · cases a with
    | none => exact ⟨u, w, run_append_none w B u M h cap, by simpa using h, World.grownBy.refl _ _, .inl rfl⟩
    | some ad => exact main ad cap (fun j x hx => by simp at hx)
  · refine main ⟨b, off, none⟩ cap (fun j x hx => ?_)
    obtain ⟨i, y, k, h1, h2, h3⟩ := flat_get L j x hx
    rw [Addr.add_mid, h3, ← Nat.add_assoc]
    exact hr i y h1 k x h2

theorem wp_append_lts {o : Oper} {a : Act} {w : World} {K : Act → World → Prop} {Q : Exit → Act → World → Prop} (s x : Operand)
    (ho : o.op = .call { callee := .builtin .append, args := #[s, x], argTypes := #[26, 26] }) (hty : o.type = 26) (B : Nat) (u v : Value) (M L : List Let) (hs : a.eval s = u) (hx : a.eval x = v) (h : Own B w u M) (hv : Lts w v L) (hl : M.length + L.length ≤ 1000000) (hB : B ≤ w.heap.size)
    (hK : ∀ u' w', Own B w' u' (M ++ L) → w.grownBy w' u.ownBlock → (u'.ownBlock = u.ownBlock ∨ u'.ownBlock = some w.heap.size) → K (a.put o.dst u') w') : o.wp Try.prog a w K Q := by
  obtain ⟨u', w', hr, h2, h3, h5⟩ := run_append_lts w B u v M L h hv hl hB
  unfold Oper.wp execOp
  simp only [ho, hty, resolve, invoke, builtin, Sem.run_bind, Sem.run_pure, Result.andThen_ok, List.map_toArray, List.map_cons, List.map_nil, hs, hx, hr]
  exact hK u' w' h2 h3 h5

end Go.Proofs.Ytchkbbkcflmcmaa
