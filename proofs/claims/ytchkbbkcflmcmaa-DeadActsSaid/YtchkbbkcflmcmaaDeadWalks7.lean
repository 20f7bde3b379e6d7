/- The reference's answers: Purge, List. -/
import Derived.Test.YtchkbbkcflmcmaaDeadWalks6
set_option linter.unusedVariables false
namespace Go.Proofs.Ytchkbbkcflmcmaa
open Go.RowKit

theorem Own.made {B : Nat} {w : World} (hB : B ≤ w.heap.size) : Own B (w.alloc (.cells #[] 29)) (.slice (some ⟨w.heap.size, 0, none⟩) 0 0) [] :=
  ⟨rfl, .inr ⟨w.heap.size, 0, #[], rfl, hB, heap_alloc_new _ _, Nat.le_refl _, by simp [maxLen], rfl, rfl⟩⟩

set_option maxRecDepth 100000 in
set_option maxHeartbeats 1000000 in
theorem refPurge_any (w : World) (v : Value) (L : List Let) (hv : Lts w v L) (hl : L.length ≤ 100000) (id : Int) :
    Calls Try.prog 9 #[v, .int .i64 id] w fun e w' => ∃ v', e = .returned v' ∧ Below w.heap.size w w' ∧ Own w.heap.size w' v' (purgev id L) := by
  obtain ⟨av, capv, rfl⟩ := hv.form
  have HV := Lib.hid hv
  clear hv
  go_enter Try.func9, Try.ntmps9
  go_wp2_with fail
  have hO1 := Own.made (B := w.heap.size) (w := w) (Nat.le_refl _)
  have hb1 : Below w.heap.size w (w.alloc (.cells #[] 29)) := (Below.refl _ _).alloc (Nat.le_refl _) _
  generalize w.alloc (.cells #[] 29) = W1 at hO1 hb1 ⊢
  go_loopw [5, 6] (fun out i wr => ∃ k : Nat, k ≤ L.length ∧ i = .int .i64 k ∧ Below w.heap.size w wr ∧ Own w.heap.size wr out (purgev id (L.take k))) (fun out i _ => L.length - (intOf i).toNat)
  case atStart => exact ⟨0, by omega, rfl, hb1, hO1⟩
  case round =>
    clear hO1 hb1
    obtain ⟨k, hk, rfl, hW, hO⟩ := hrel
    by_cases hlt : k < L.length
    · obtain ⟨x, hx⟩ : ∃ x, L[k]? = some x := ⟨_, List.getElem?_eq_getElem hlt⟩
      obtain ⟨b, off, rfl, hr2⟩ := (HV.out.below hW).at hx
      have c2 := range_id hr2
      have T := Lib.hid (show purgeStep id (purgev id (L.take k)) x = purgev id (L.take (k + 1)) by rw [← purgev_snoc, take_snoc hx])
      obtain ⟨ao, capo, rfl⟩ := hO.form
      have hlo := purgev_le id (L.take k)
      have hlk : (L.take k).length = k := by simp; omega
      have HO := Lib.hid hO
      clear hx hO
      by_cases hp : id = 0
      · have T2 := Lib.hid (show purgeStep id (purgev id (L.take k)) x = purgev id (L.take k) from if_neg (fun h => h.1 hp))
        have hpb : (id != 0) = false := by simp [hp]
        clear hp
        go_wp2_with fail
        go_roundw
        case rel => exact ⟨k + 1, by omega, by go_num, hW, by rw [← T.out, T2.out]; exact HO.out⟩
        case measure => simp [intOf]; omega
      · by_cases hq : x.id = id
        · have T2 := Lib.hid (show purgeStep id (purgev id (L.take k)) x = purgev id (L.take k) from if_neg (fun h => h.2 hq))
          have hpb : (id != 0) = true := by simp [hp]
          have hqb : (x.id != id) = false := by simp [hq]
          clear hp hq
          go_wp2_with fail
          go_roundw
          case rel => exact ⟨k + 1, by omega, by go_num, hW, by rw [← T.out, T2.out]; exact HO.out⟩
          case measure => simp [intOf]; omega
        · have T2 := Lib.hid (show purgeStep id (purgev id (L.take k)) x = purgev id (L.take k) ++ [x] from if_pos ⟨hp, hq⟩)
          have hpb : (id != 0) = true := by simp [hp]
          have hqb : (x.id != id) = true := by simp [hq]
          clear hp hq
          go_wp2_with (first
            | (refine wpList_load_mid rfl 29 _ rfl b (off + k * 6) rfl x.cells _ hr2 Try.underlying29 rfl (letRow x) ?_)
            | (refine wl_build_let rfl _ rfl x rfl ?_)
            | (refine wl_append_let rfl _ _ rfl w.heap.size _ (purgev id (L.take k)) rfl (HO.out.below ((Below.refl _ _).alloc (Nat.le_refl _) _)) wr.heap.size 0 1 x rfl (row_range (heap_alloc_new _ _)) (by omega) (by have := hW.size; simp; omega) ?_; intro g2 cap2 W4 hO4 hg4; replace hg4 : World.grownBy _ W4 (Value.slice ao (purgev id (L.take k)).length capo).ownBlock := hg4))
          rw [← T2.out, T.out] at hO4
          have hW4 := ((hW.alloc hW.size _).grown hg4 (by have := hW.size; simp; omega) (fun i hi => (HO.out.lt i hi).1))
          go_roundw
          case rel => exact ⟨k + 1, by omega, by go_num, hW4, hO4⟩
          case measure => simp [intOf]; omega
    · obtain rfl : k = L.length := by omega
      rw [List.take_length] at hO
      have HO := Lib.hid hO
      clear hO
      go_wp2_with fail
      go_ret
      exact ⟨_, rfl, hW, HO.out⟩

set_option maxRecDepth 100000 in
set_option maxHeartbeats 1000000 in
theorem refList_any (w : World) (v : Value) (L : List Let) (hv : Lts w v L) (hl : L.length ≤ 100000) (f m : Int) :
    Calls Try.prog 14 #[v, .int .i64 f, .int .i64 m] w fun e w' => ∃ v', e = .returned v' ∧ Below w.heap.size w w' ∧ Own w.heap.size w' v' (listv f m L) := by
  obtain ⟨av, capv, rfl⟩ := hv.form
  have HV := Lib.hid hv
  clear hv
  go_enter Try.func14, Try.ntmps14
  go_wp2_with fail
  have hO1 := Own.made (B := w.heap.size) (w := w) (Nat.le_refl _)
  have hb1 : Below w.heap.size w (w.alloc (.cells #[] 29)) := (Below.refl _ _).alloc (Nat.le_refl _) _
  generalize w.alloc (.cells #[] 29) = W1 at hO1 hb1 ⊢
  go_loopw [7, 8] (fun out i wr => ∃ k : Nat, k ≤ L.length ∧ i = .int .i64 k ∧ Below w.heap.size w wr ∧ Own w.heap.size wr out (listv f m (L.take k))) (fun out i _ => L.length - (intOf i).toNat)
  case atStart => exact ⟨0, by omega, rfl, hb1, hO1⟩
  case round =>
    clear hO1 hb1
    obtain ⟨k, hk, rfl, hW, hO⟩ := hrel
    by_cases hlt : k < L.length
    · obtain ⟨x, hx⟩ : ∃ x, L[k]? = some x := ⟨_, List.getElem?_eq_getElem hlt⟩
      obtain ⟨b, off, rfl, hr2⟩ := (HV.out.below hW).at hx
      have c2 := range_id hr2
      have T := Lib.hid (show listStep f m (listv f m (L.take k)) x = listv f m (L.take (k + 1)) by rw [← listv_snoc, take_snoc hx])
      obtain ⟨ao, capo, rfl⟩ := hO.form
      have hlo := listv_le f m (L.take k)
      have hlk : (L.take k).length = k := by simp; omega
      have HO := Lib.hid hO
      clear hx hO
      by_cases hp : f ≤ x.id
      · by_cases hq : ((listv f m (L.take k)).length : Int) < m
        · have T2 := Lib.hid (show listStep f m (listv f m (L.take k)) x = listv f m (L.take k) ++ [x] from if_pos ⟨hp, hq⟩)
          go_wp2_with (first
            | (refine wpList_load_mid rfl 29 _ rfl b (off + k * 6) rfl x.cells _ hr2 Try.underlying29 rfl (letRow x) ?_)
            | (refine wl_build_let rfl _ rfl x rfl ?_)
            | (refine wl_append_let rfl _ _ rfl w.heap.size _ (listv f m (L.take k)) rfl (HO.out.below ((Below.refl _ _).alloc (Nat.le_refl _) _)) wr.heap.size 0 1 x rfl (row_range (heap_alloc_new _ _)) (by omega) (by have := hW.size; simp; omega) ?_; intro g2 cap2 W4 hO4 hg4; replace hg4 : World.grownBy _ W4 (Value.slice ao (listv f m (L.take k)).length capo).ownBlock := hg4))
          rw [← T2.out, T.out] at hO4
          have hW4 := ((hW.alloc hW.size _).grown hg4 (by have := hW.size; simp; omega) (fun i hi => (HO.out.lt i hi).1))
          go_roundw
          case rel => exact ⟨k + 1, by omega, by go_num, hW4, hO4⟩
          case measure => simp [intOf]; omega
        · have T2 := Lib.hid (show listStep f m (listv f m (L.take k)) x = listv f m (L.take k) from if_neg (fun h => hq h.2))
          have hq := Int.not_lt.1 hq
          go_wp2_with fail
          go_roundw
          case rel => exact ⟨k + 1, by omega, by go_num, hW, by rw [← T.out, T2.out]; exact HO.out⟩
          case measure => simp [intOf]; omega
      · have T2 := Lib.hid (show listStep f m (listv f m (L.take k)) x = listv f m (L.take k) from if_neg (fun h => hp h.1))
        have hp := Int.not_le.1 hp
        go_wp2_with fail
        go_roundw
        case rel => exact ⟨k + 1, by omega, by go_num, hW, by rw [← T.out, T2.out]; exact HO.out⟩
        case measure => simp [intOf]; omega
    · obtain rfl : k = L.length := by omega
      rw [List.take_length] at hO
      have HO := Lib.hid hO
      clear hO
      go_wp2_with fail
      go_ret
      exact ⟨_, rfl, hW, HO.out⟩

end Go.Proofs.Ytchkbbkcflmcmaa
