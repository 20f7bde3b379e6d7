/- A list of one's own of which the front may have been let go (its place in its block is not the first); sorting a list of one's own. -/
import Derived.Test.YtddmajgadaooaaaDelF2
import Derived.ArgAppend
import Derived.Sort.OwnSortedInts
set_option linter.unusedVariables false
namespace Go.Proofs.Ytddmajgadaooaaa
open Go.RowKit

def OwnQ (B : Nat) (w : World) (v : Value) (L : List Int) : Prop :=
  (L = [] ∧ ∃ a, v = .slice a 0 0) ∨ ∃ g off cap, v = .slice (some ⟨g, off, none⟩) L.length cap ∧ B ≤ g ∧ g < w.heap.size ∧ L.length ≤ cap ∧ cap ≤ maxLen ∧ (∀ k x, L[k]? = some x → w.cell? ⟨g, off + k, none⟩ = some (.int .i64 x)) ∧ w.there g off cap
theorem OwnQ.form {B : Nat} {w : World} {v : Value} {L : List Int} (h : OwnQ B w v L) : ∃ a c, v = .slice a L.length c := by
  rcases h with ⟨rfl, a, rfl⟩ | ⟨g, off, cap, rfl, -⟩
  · exact ⟨a, 0, rfl⟩
  · exact ⟨_, _, rfl⟩
theorem OwnQ.upd {F : List Nat} {B : Nat} {w w' : World} {v : Value} {L : List Int} (h : OwnQ B w v L) (hu : Upd F w w') (hF : ∀ k, v.ownBlock = some k → k ∉ F) : OwnQ B w' v L := by
  rcases h with h | ⟨g, off, cap, rfl, h1, h2, h3, h4, h5, h6⟩
  · exact .inl h
  · have hg := hF g rfl
    exact .inr ⟨g, off, cap, rfl, h1, Nat.lt_of_lt_of_le h2 hu.size, h3, h4, fun k x hk => hu.cell hg (h5 k x hk), hu.there hg h6⟩
theorem OwnQ.below {B : Nat} {w w' : World} {v : Value} {L : List Int} (h : OwnQ B w v L) (hb : Below w.heap.size w w') : OwnQ B w' v L := h.upd (Upd.ofBelow [] hb) (by simp)
theorem OwnQ.nil (B : Nat) (w : World) : OwnQ B w (.slice none 0 0) [] := .inl ⟨rfl, _, rfl⟩
theorem OwnQ.lts {B : Nat} {w : World} {v : Value} {L : List Int} (h : OwnQ B w v L) : Reads intR w v L := by
  rcases h with ⟨rfl, a, rfl⟩ | ⟨g, off, cap, rfl, -, -, -, -, h5, -⟩
  · exact .inl ⟨rfl, a, 0, rfl⟩
  · refine .inr ⟨g, off, cap, rfl, fun i x hi j v hv => ?_⟩
    have hj : j = 0 := by
      have := (List.getElem?_eq_some_iff.1 hv).1
      simp [intR, Rec.cells, Value.cells] at this
      omega
    subst hj
    have := h5 i x hi
    simp [intR, Rec.cells, Value.cells] at hv
    subst hv
    simpa [intR] using this
theorem OwnQ.lt {B : Nat} {w : World} {v : Value} {L : List Int} (h : OwnQ B w v L) (hL : L ≠ [] ∨ True) : ∀ k, v.ownBlock = some k → (∃ a, v = .slice a 0 0) ∨ (B ≤ k ∧ k < w.heap.size) := by
  intro k hk
  rcases h with ⟨rfl, a, rfl⟩ | ⟨g, off, cap, rfl, h1, h2, -⟩
  · exact .inl ⟨a, rfl⟩
  · simp [Value.ownBlock] at hk
    subst hk
    exact .inr ⟨h1, h2⟩

/-- The blocks that an append may write. -/
def qF : Value → List Nat
  | .slice (some a) _ (c + 1) => [a.block]
  | _ => []
theorem OwnQ.low {B : Nat} {w : World} {v : Value} {L : List Int} (h : OwnQ B w v L) : ∀ k ∈ qF v, B ≤ k ∧ k < w.heap.size := by
  intro k hk
  rcases h with ⟨rfl, a, rfl⟩ | ⟨g, off, cap, rfl, h1, h2, -⟩
  · unfold qF at hk
    split at hk
    · rename_i heq
      cases heq
    · simp at hk
  · unfold qF at hk
    split at hk
    · rename_i heq
      simp only [Value.slice.injEq, Option.some.injEq] at heq
      obtain ⟨rfl, -, -⟩ := heq
      simp at hk
      subst hk
      exact ⟨h1, h2⟩
    · simp at hk
theorem OwnQ.updF {F : List Nat} {B : Nat} {w w' : World} {v : Value} {L : List Int} (h : OwnQ B w v L) (hu : Upd F w w') (hF : ∀ k ∈ qF v, k ∉ F) : OwnQ B w' v L := by
  rcases h with h | ⟨g, off, cap, rfl, h1, h2, h3, h4, h5, h6⟩
  · exact .inl h
  · by_cases hc : cap = 0
    · subst hc
      have hL : L = [] := List.eq_nil_of_length_eq_zero (by omega)
      subst hL
      exact .inl ⟨rfl, _, rfl⟩
    · obtain ⟨c, rfl⟩ : ∃ c, cap = c + 1 := ⟨cap - 1, by omega⟩
      have hg := hF g (by simp [qF])
      exact .inr ⟨g, off, c + 1, rfl, h1, Nat.lt_of_lt_of_le h2 hu.size, h3, h4, fun k x hk => hu.cell hg (h5 k x hk), hu.there hg h6⟩
theorem Owns.q {B : Nat} {w : World} {v : Value} {L : List Int} (h : Owns intR B w v L) : OwnQ B w v L := by
  have hr := h.lts intOk
  rcases h.2 with ⟨rfl, h0⟩ | ⟨g, cap, cur, rfl, h1, hg, h2, h3, hs, ht⟩
  · exact .inl ⟨List.eq_nil_of_length_eq_zero h0, _, rfl⟩
  · refine .inr ⟨g, 0, cap, rfl, h1, (Array.getElem?_eq_some_iff.1 hg).1, h2, h3, fun k x hk => ?_, fun j hj => ?_⟩
    · obtain ⟨b, off, e, r⟩ := hr.at hk
      simp only [Option.some.injEq, Addr.mk.injEq, and_true] at e
      obtain ⟨rfl, rfl⟩ := e
      exact int_cell r
    · have hs' : cur.size = cap := by simpa [intR] using hs
      rw [Nat.zero_add, cell_of_cur hg, Array.getElem?_eq_getElem (by omega)]
      exact ⟨rfl, free_of_cur hg⟩

theorem OwnQ.tail {B : Nat} {w : World} {g off cap n : Nat} {x : Int} {r : List Int} (h : OwnQ B w (.slice (some ⟨g, off, none⟩) (n + 1) cap) (x :: r)) (hn : r.length = n) :
    OwnQ B w (.slice (if cap = 1 then some ⟨g, off, none⟩ else some ⟨g, off + 1, none⟩) n (cap - 1)) r := by
  rcases h with ⟨h, -⟩ | ⟨g', off', cap', e, h1, h2, h3, h4, h5, h6⟩
  · cases h
  · simp only [Value.slice.injEq, Option.some.injEq, Addr.mk.injEq, and_true] at e
    obtain ⟨⟨rfl, rfl⟩, -, rfl⟩ := e
    simp at h3
    subst hn
    by_cases hc : cap = 1
    · have hr : r = [] := List.eq_nil_of_length_eq_zero (by omega)
      subst hr
      subst hc
      exact .inl ⟨rfl, _, rfl⟩
    · rw [if_neg hc]
      refine .inr ⟨g, off + 1, cap - 1, rfl, h1, h2, by omega, by omega, fun k y hk => ?_, fun j hj => ?_⟩
      · rw [Nat.add_assoc]; exact h5 (1 + k) y (by rw [Nat.add_comm]; simpa using hk)
      · have := h6 (1 + j) (by omega)
        rw [← Nat.add_assoc] at this
        exact this

theorem there_setCells {w : World} {g off n : Nat} (h : w.there g off n) (o : Nat) (vs : List Value) : (w.setCells g o vs).there g off n := by
  induction vs generalizing w o with
  | nil => exact h
  | cons v r ih =>
    rw [World.setCells]
    refine ih (fun j hj => ?_) (o + 1)
    obtain ⟨h1, h2⟩ := h j hj
    rw [World.frozen?_setCell]
    refine ⟨?_, h2⟩
    obtain ⟨u, hu⟩ := Option.isSome_iff_exists.1 h1
    by_cases e : off + j = o
    · subst e; rw [World.cell?_setCell_same _ _ _ hu]; rfl
    · rw [World.cell?_setCell_other _ _ _ _ (by simp), hu]; rfl

theorem wl_app {ops : Array Oper} {rest : List Oper} {o : Oper} {a : Act} {w : World} {Q : Exit → Act → World → Prop} (hgd : o.guard = none) (s x : Operand)
    (ho : o.op = .call { callee := .builtin .append, args := #[s, x], argTypes := #[59, 59] }) (B : Nat) (v : Value) (L : List Int) (hs : a.eval s = v) (hown : OwnQ B w v L)
    (b c : Nat) (y : Int) (hx : a.eval x = .slice (some ⟨b, 0, none⟩) 1 c) (hr : w.cell? ⟨b, 0, none⟩ = some (.int .i64 y)) (hlen : L.length < 1000000) (hB : B ≤ w.heap.size)
    (h : ∀ v' w', OwnQ B w' v' (L ++ [y]) → Upd (qF v) w w' → (∀ k ∈ qF v', k ∈ qF v ∨ w.heap.size ≤ k) → wpList Try.prog ops Q rest (a.put o.dst v') w') : wpList Try.prog ops Q (o :: rest) a w := by
  obtain ⟨i, hi, hz, hs6, hby⟩ := intOk.info
  have hnew : ∀ j u, [Value.int .i64 y][j]? = some u → w.cell? ((⟨b, 0, none⟩ : Addr).add j) = some u := fun j u hu => by
    match j, hu with
    | 0, hu => simp at hu; subst hu; rw [Addr.add_mid]; exact hr
    | j + 1, hu => simp at hu
  have grow : ∀ v' w', w'.ownsRow w.heap.size 3 1 v' (L.length + 1) (L.map (.int .i64) ++ [.int .i64 y]) → w.grownBy w' none → wpList Try.prog ops Q rest (a.put o.dst v') w' := fun v' w' ho hg => by
    have hO : Owns intR w.heap.size w' v' (L ++ [y]) := by
      unfold Owns
      rw [int_flat, List.map_append, List.length_append]
      exact ho
    refine h v' w' ?_ ⟨hg.os, hg.tape, hg.output, hg.size, fun k hk _ => hg.block k hk (by simp)⟩ (fun k hk => .inr (hO.q.low k hk).1)
    rcases hO.q with h1 | ⟨g, off, cap, e, h1, h2⟩
    · exact .inl h1
    · exact .inr ⟨g, off, cap, e, by omega, h2⟩
  rcases hown with ⟨rfl, ad, rfl⟩ | ⟨g, off, cap, rfl, h1, h2, h3, h4, h5, h6⟩
  · exact wpList_append_grows (P := Try.prog) w hgd s x 59 ho 3 i (.int .i64 0) 1 8 intOk.slice hi hz hs6 hby rfl (by decide) ad 0 0 [] hs (fun _ => ⟨rfl, rfl⟩) rfl (by simp) ⟨b, 0, none⟩ 1 c [.int .i64 y] hx rfl hnew (by simp [Value.oneCell']) (by omega) (by simp [maxLen]) (by simp) (fun v' w' ho hg => grow v' w' (by simpa using ho) hg)
  · refine wpList_append_arg (P := Try.prog) w hgd s x 59 ho 3 i (.int .i64 0) 1 8 intOk.slice hi hz hs6 hby rfl (by decide) g off L.length cap (L.map (.int .i64)) hs (by simp) (fun j u hu => ?_) ⟨b, 0, none⟩ 1 c [.int .i64 y] hx rfl hnew (by simp [Value.oneCell']) (fun hroom j hj => ?_) (by simp [maxLen]; omega) (by omega) (fun hroom => ?_) (fun hg v' w' ho hgr => grow v' w' ho hgr)
    · rw [List.getElem?_map] at hu
      obtain ⟨z, hz, rfl⟩ := Option.map_eq_some_iff.1 hu
      exact h5 j z hz
    · simp at hj
      subst hj
      have := h6 L.length (by omega)
      simpa using this
    · have hcp : 0 < cap := by omega
      obtain ⟨c', rfl⟩ : ∃ c', cap = c' + 1 := ⟨cap - 1, by omega⟩
      have hq : qF (.slice (some ⟨g, off, none⟩) L.length (c' + 1)) = [g] := rfl
      refine h _ _ (.inr ⟨g, off, c' + 1, by simp, h1, by rw [Upd.size_setCells]; exact h2, by simp; omega, h4, fun k z hk => ?_, there_setCells h6 _ _⟩) (by rw [hq]; exact (Upd.refl _ _).setCells (by simp) _ _) (fun k hk => .inl hk)
      simp only [World.setCells, Nat.mul_one]
      by_cases hkl : k = L.length
      · subst hkl
        simp at hk
        subst hk
        obtain ⟨u, hu⟩ := Option.isSome_iff_exists.1 (h6 L.length (by omega)).1
        exact World.cell?_setCell_same _ _ _ hu
      · have hk2 : k < L.length := by have := (List.getElem?_eq_some_iff.1 hk).1; simp at this; omega
        rw [World.cell?_setCell_other _ _ _ _ (by simp)]
        exact h5 k z (by rwa [List.getElem?_append_left hk2] at hk)

theorem sort_any (w : World) (v : Value) (L : List Int) (B : Nat) (h : Owns intR B w v L) (hbig : L.length ≤ 100000) :
    Calls Try.prog 30 #[v] w fun e w' => e = .returned (.tuple #[]) ∧ Owns intR B w' v (L.mergeSort fun x y => decide (x ≤ y)) ∧ ∃ F, (∀ k ∈ F, v.ownBlock = some k) ∧ Upd F w w' := by
  rcases h.2 with ⟨rfl, h0⟩ | ⟨g, cap, cur, rfl, h1, hg, h2, h3, hs, ht⟩
  · have hL : L = [] := List.eq_nil_of_length_eq_zero h0
    subst hL
    refine (Try.slices_Sort_int_none none 0 w).mono ?_
    rintro e w' ⟨rfl, rfl⟩
    exact ⟨rfl, by rw [List.mergeSort_nil]; exact h, [], by simp, Upd.refl _ _⟩
  · have ht' : cur.toList.take L.length = L.map (.int .i64) := by rw [int_flat] at ht; simpa [intR] using ht
    refine (Try.slices_Sort_int g 0 cap L w (Go.holds_of_blockI hg ht') (Array.getElem?_eq_some_iff.1 hg).1 (by omega)).mono ?_
    rintro e w' ⟨rfl, n, os, rfl⟩
    have hl : (L.mergeSort fun x y => decide (x ≤ y)).length = L.length := List.length_mergeSort _
    refine ⟨rfl, ?_, [g], by simp [Value.ownBlock], ?_⟩
    · have := Go.ownsRow_sortedI (n := n) (os := os) hl h1 hg h2 h3 (by simpa [intR] using hs)
      unfold Owns
      rw [int_flat, hl]
      exact this
    · have hgb := Go.grownBy_sortedI (w := w) (g := g) (n := n) (os := os) (L.mergeSort fun x y => decide (x ≤ y)).toArray
      exact ⟨hgb.os, hgb.tape, hgb.output, hgb.size, fun k hk hn => hgb.block k hk (fun e => hn (by cases e; simp))⟩
end Go.Proofs.Ytddmajgadaooaaa
