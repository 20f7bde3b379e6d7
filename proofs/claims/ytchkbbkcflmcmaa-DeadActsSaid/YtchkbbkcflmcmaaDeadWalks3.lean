/- The contracts of dead's functions, going on: All. -/
import Derived.Test.YtchkbbkcflmcmaaDeadWalks2
set_option linter.unusedVariables false
namespace Go.Proofs.Ytchkbbkcflmcmaa
open Go.RowKit

theorem all_none (w : World) : Calls Try.prog 12 #[.pointer none] w fun e w' => e = .returned (.slice none 0 0) ∧ w = w' := by
  go_enter Try.func12, Try.ntmps12
  go_wp2_with fail
  go_ret
  exact ⟨rfl, rfl⟩

theorem take_snoc {α : Type} {L : List α} {k : Nat} {x : α} (h : L[k]? = some x) : L.take k ++ [x] = L.take (k + 1) := by
  rw [List.take_add_one, h]; rfl

set_option maxRecDepth 100000 in
set_option maxHeartbeats 1000000 in
theorem all_any (w : World) (p g room fst : Nat) (L : List Let) (h : BoxAt w p g room fst L) :
    Calls Try.prog 12 #[.pointer (some ⟨p, 0, none⟩)] w fun e w' => ∃ v, e = .returned v ∧ Below w.heap.size w w' ∧ Own w.heap.size w' v L := by
  obtain ⟨hf, hl, R, hB, hR⟩ := h
  have r1 := hB.room1
  have HB := Lib.hid hB
  have HR := Lib.hid hR
  have c2 := hB.c2
  clear hB hR
  go_enter Try.func12, Try.ntmps12
  go_wp2_with fail
  go_loopw [3, 11] (fun out i wr => ∃ k : Nat, k ≤ L.length ∧ i = .int .i64 k ∧ Below w.heap.size w wr ∧ Own w.heap.size wr out (L.take k)) (fun out i _ => L.length - (intOf i).toNat)
  case atStart => exact ⟨0, by omega, rfl, Below.refl _ _, Own.nil _ _⟩
  case round =>
    clear c2
    obtain ⟨k, hk, rfl, hW, hO⟩ := hrel
    by_cases hlt : k < L.length
    · obtain ⟨x, hx⟩ : ∃ x, L[k]? = some x := ⟨_, List.getElem?_eq_getElem hlt⟩
      obtain ⟨o, ho⟩ : ∃ o, ((fst + k) % room) * 6 = o := ⟨_, rfl⟩
      have HX := Lib.hid (show ∀ W, BoxRaw W p g room fst L.length R → W.rangeAt g o x.cells from fun W hw => ho ▸ hw.rg _ x (HR.out k x hx))
      have HO2 := Lib.hid ho
      clear ho
      have T := Lib.hid (take_snoc hx)
      have hlk : (L.take k).length = k := by simp; omega
      have HO := Lib.hid hO
      clear hx hO
      go_wp2_with (first
        | (go_at_call 16; refine (get_off _ p g room fst L.length R (HB.out.below hW) hf k (by omega) o HO2.out).mono ?_; rintro e W2 ⟨rfl, hb2⟩)
        | (refine wpList_load_mid rfl 29 _ rfl g o rfl x.cells _ (HX.out _ ((HB.out.below hW).below hb2)) Try.underlying29 rfl (letRow x) ?_)
        | (refine wl_build_let rfl _ rfl x rfl ?_)
        | (refine wl_append_let rfl _ _ rfl w.heap.size _ (L.take k) rfl ((HO.out.below hb2).below ((Below.refl _ _).alloc (Nat.le_refl _) _)) W2.heap.size 0 1 x rfl (row_range (heap_alloc_new _ _)) (by rw [hlk]; omega) (by have := hW.size; have := hb2.size; simp; omega) ?_; intro g2 cap2 W3 hO3 hg3; replace hg3 : World.grownBy _ W3 u3.ownBlock := hg3))
      rw [hlk, T.out] at hO3
      have hW2 := bthen' hW hb2
      have hW3 := ((hW2.alloc hW2.size _).grown hg3 (by have := hW2.size; simp; omega) (fun i hi => (HO.out.lt i hi).1))
      go_roundw
      case rel => exact ⟨k + 1, by omega, by go_num, hW3, hO3⟩
      case measure => simp [intOf]; omega
    · obtain rfl : k = L.length := by omega
      rw [List.take_length] at hO
      have HO := Lib.hid hO
      clear hO
      go_wp2_with fail
      go_ret
      exact ⟨_, rfl, hW, HO.out⟩


/-- The letters from a number on, so many at most. -/
def listStep (from_ most : Int) (out : List Let) (x : Let) : List Let := if from_ ≤ x.id ∧ (out.length : Int) < most then out ++ [x] else out
def listv (from_ most : Int) (L : List Let) : List Let := L.foldl (listStep from_ most) []

theorem listv_snoc (f m : Int) (L : List Let) (x : Let) : listv f m (L ++ [x]) = listStep f m (listv f m L) x := by unfold listv; rw [List.foldl_append]; rfl
theorem listv_le (f m : Int) : ∀ L : List Let, (listv f m L).length ≤ L.length := by
  intro L
  have : ∀ (L : List Let) (out : List Let), (L.foldl (listStep f m) out).length ≤ out.length + L.length := by
    intro L
    induction L with
    | nil => intro out; simp
    | cons x L ih =>
      intro out
      rw [List.foldl_cons]
      have h1 := ih (listStep f m out x)
      have h2 : (listStep f m out x).length ≤ out.length + 1 := by unfold listStep; split <;> simp
      simp; omega
  have h := this L []
  simp only [List.length_nil, Nat.zero_add] at h
  exact h

end Go.Proofs.Ytchkbbkcflmcmaa
