/- The contracts of dead's functions, going on: New, List. -/
import Derived.Test.YtchkbbkcflmcmaaDeadWalks3
set_option linter.unusedVariables false
namespace Go.Proofs.Ytchkbbkcflmcmaa
open Go.RowKit

theorem new_none (w : World) (room : Int) (h : room < 1) : Calls Try.prog 6 #[.int .i64 room] w fun e w' => e = .returned (.pointer none) ∧ w = w' := by
  go_enter Try.func6, Try.ntmps6
  go_wp2_with fail
  go_ret
  exact ⟨rfl, rfl⟩

theorem ring_there {w : World} {B g n : Nat} {xs : List Value} (h : w.ownsRow B 29 6 (.slice (some ⟨g, 0, none⟩) n n) n xs) (hn : 0 < n) (s : Nat) (hs : s < n) : w.there g (s * 6) 6 := by
  rcases h.2 with ⟨h0, _⟩ | ⟨g', cap, cur, hv, hb, hg, hn2, hm, hsz, ht⟩
  · cases h0
  · simp only [Value.slice.injEq, Option.some.injEq, Addr.mk.injEq, and_true] at hv
    obtain ⟨rfl, _, rfl⟩ := hv
    intro j hj
    refine ⟨?_, by simp [World.frozen?, hg]⟩
    rw [cell_of_row w g (s * 6 + j) cur _ (0, 0) hg]
    simp; omega

set_option maxHeartbeats 1000000 in
theorem new_any (w : World) (room : Nat) (h0 : 1 ≤ room) (h1 : room ≤ 1024) :
    Calls Try.prog 6 #[.int .i64 room] w fun e w' => ∃ p g, e = .returned (.pointer (some ⟨p, 0, none⟩)) ∧ Below w.heap.size w w' ∧ w.heap.size ≤ p ∧ w.heap.size ≤ g ∧ BoxAt w' p g room 0 [] := by
  obtain ⟨i, hi, hz, hs6, hby⟩ : ∃ i, Try.prog.info? 29 = some i ∧ i.zero = some (.agg zeroLet.cells.toArray) ∧ i.size = 6 ∧ i.bytes = 56 := ⟨_, rfl, rfl, rfl, rfl⟩
  have HI := Lib.hid hi
  have HZ := Lib.hid hz
  have H6 := Lib.hid hs6
  have hb2 : i.bytes * room ≤ 281474976710656 := by rw [hby]; omega
  have HBY := Lib.hid hb2
  clear hi hz hs6 hby hb2
  go_enter Try.func6, Try.ntmps6
  go_wp2_with (refine wpList_make_full _ rfl _ _ 26 rfl w.heap.size 29 i _ 6 Try.underlying26 HI.out HZ.out H6.out .i64 .i64 room room room rfl rfl rfl rfl HBY.out (by simp only [maxLen]; omega) (Nat.le_refl _) ?_; intro W1 hown hgr)
  have hTH := ring_there hown (by omega)
  have hgl : w.heap.size < W1.heap.size := by
    obtain ⟨u, hu⟩ := Option.isSome_iff_exists.1 (hTH 0 (by omega) 0 (by omega)).1
    exact World.block_lt_of_cell? W1 _ hu
  have hB := (Below.refl w.heap.size w).grown hgr (Nat.le_refl _) (by intro k hk; cases hk)
  go_ret
  refine ⟨_, w.heap.size, rfl, hB.alloc (by omega) _, by omega, Nat.le_refl _, by omega, by simp, fun _ => none, ⟨by omega, by omega, h1, ?_, ?_, ?_, ?_, ?_, fun s hs => World.there_alloc (hTH s hs) _, by simp⟩, by intro i x hx; simp at hx⟩
  · rw [World.cell?_alloc_new]; rfl
  · rw [World.cell?_alloc_new]; rfl
  · rw [World.cell?_alloc_new]; rfl
  · unfold World.frozen?; dsimp only; rw [heap_alloc_new]; rfl
  · unfold World.frozen?; dsimp only; rw [heap_alloc_new]; rfl

theorem Own.mono {B B' : Nat} {w : World} {v : Value} {L : List Let} (h : Own B w v L) (hb : B' ≤ B) : Own B' w v L := by
  refine ⟨h.1, ?_⟩
  rcases h.2 with h0 | ⟨g, cap, cur, hv, hb2, hr⟩
  · exact .inl h0
  · exact .inr ⟨g, cap, cur, hv, by omega, hr⟩

/-- A letter into a new variable. -/
def freshW (w : World) (x : Let) : World := (w.alloc (.cells zeroLet.cells.toArray 29)).setCells w.heap.size 0 x.cells
theorem fresh_there (w : World) (x : Let) : (w.alloc (.cells zeroLet.cells.toArray 29)).there w.heap.size 0 x.cells.toArray.size := there_row (heap_alloc_new w (.cells zeroLet.cells.toArray 29)) 6 (Nat.le_refl _)
theorem fresh_range (w : World) (x : Let) : (freshW w x).rangeAt w.heap.size 0 x.cells := World.rangeAt_setCells_same _ _ _ _ (there_row (heap_alloc_new w (.cells zeroLet.cells.toArray 29)) 6 (Nat.le_refl _))
theorem fresh_below (w : World) (x : Let) : Below w.heap.size w (freshW w x) := ((Upd.refl [w.heap.size] _).setCells (by simp) _ _).toBelow ((Below.refl _ _).alloc (Nat.le_refl _) _) (by simp) (by simp)
theorem fresh_size (w : World) (x : Let) : (freshW w x).heap.size = w.heap.size + 1 := by unfold freshW; rw [Upd.size_setCells]; simp
theorem range_id {w : World} {b o : Nat} {x : Let} (h : w.rangeAt b o x.cells) : w.cell? ⟨b, o, none⟩ = some (.int .i64 x.id) := by have := h 0 _ rfl; simpa using this

theorem Own.form {B : Nat} {w : World} {v : Value} {L : List Let} (h : Own B w v L) : ∃ a cap, v = .slice a L.length cap := by
  rcases h.2 with ⟨rfl, h0⟩ | ⟨g, cap, cur, rfl, -⟩
  · exact ⟨none, 0, by rw [h0]⟩
  · exact ⟨_, _, rfl⟩

set_option maxRecDepth 100000 in
set_option maxHeartbeats 1000000 in
theorem list_any (w : World) (p g room fst : Nat) (L : List Let) (h : BoxAt w p g room fst L) (f m : Int) :
    Calls Try.prog 13 #[.pointer (some ⟨p, 0, none⟩), .int .i64 f, .int .i64 m] w fun e w' => ∃ v, e = .returned v ∧ Below w.heap.size w w' ∧ Own w.heap.size w' v (listv f m L) := by
  have hl : L.length ≤ 1024 := by obtain ⟨_, h1, R, h2, _⟩ := h; have := h2.room1; omega
  go_enter Try.func13, Try.ntmps13
  go_wp2_with fail
  go_at_call 12; refine (all_any _ p g room fst L h).mono ?_; rintro e W1 ⟨v, rfl, hb1, hO1⟩
  obtain ⟨av, capv, rfl⟩ := hO1.form
  have HL := Lib.hid hO1.lts
  clear hO1 h
  go_wp2_with fail
  go_loopw [7, 13] (fun out i wr => ∃ k : Nat, k ≤ L.length ∧ i = .int .i64 k ∧ Below W1.heap.size W1 wr ∧ Own W1.heap.size wr out (listv f m (L.take k))) (fun out i _ => L.length - (intOf i).toNat)
  case atStart => exact ⟨0, by omega, rfl, Below.refl _ _, Own.nil _ _⟩
  case round =>
    obtain ⟨k, hk, rfl, hW, hO⟩ := hrel
    by_cases hlt : k < L.length
    · obtain ⟨x, hx⟩ : ∃ x, L[k]? = some x := ⟨_, List.getElem?_eq_getElem hlt⟩
      obtain ⟨b, off, rfl, hr⟩ : ∃ b off, av = some ⟨b, off, none⟩ ∧ W1.rangeAt b (off + k * 6) x.cells := by
        rcases HL.out with ⟨h0, _⟩ | ⟨b, off, cap, hv, hr⟩
        · rw [h0] at hlt; simp at hlt
        · simp only [Value.slice.injEq] at hv
          exact ⟨b, off, hv.1, hr k x hx⟩
      have T := Lib.hid (show listStep f m (listv f m (L.take k)) x = listv f m (L.take (k + 1)) by rw [← listv_snoc, take_snoc hx])
      obtain ⟨ao, capo, rfl⟩ := hO.form
      have hlo := listv_le f m (L.take k)
      have hlk : (L.take k).length = k := by simp; omega
      have hr2 := below_range hW hr
      have HO := Lib.hid hO
      clear hx hO hr
      by_cases hp : f ≤ x.id
      · by_cases hq : ((listv f m (L.take k)).length : Int) < m
        · have T2 := Lib.hid (show listStep f m (listv f m (L.take k)) x = listv f m (L.take k) ++ [x] from if_pos ⟨hp, hq⟩)
          go_wp2_with (first
        | (refine wpList_load_mid rfl 29 _ rfl b (off + k * 6) rfl x.cells _ hr2 Try.underlying29 rfl (letRow x) ?_)
        | (refine wpList_store_mid rfl 29 _ _ rfl wr.heap.size 0 x.cells.toArray rfl rfl (fresh_there wr x) (let_size' _) (let_one' _) ?_; show wpList _ _ _ _ _ (freshW wr x); have hx3 := fresh_range wr x; have hb3 := fresh_below wr x; have hs3 := fresh_size wr x; generalize freshW wr x = W3 at hx3 hb3 hs3 ⊢; have c3 := range_id hx3)
        | (refine wpList_load_mid rfl 29 _ rfl wr.heap.size 0 rfl x.cells _ hx3 Try.underlying29 rfl (letRow x) ?_)
        | (refine wl_build_let rfl _ rfl x rfl ?_)
        | (refine wl_append_let rfl _ _ rfl W1.heap.size _ (listv f m (L.take k)) rfl ((HO.out.below hb3).below ((Below.refl _ _).alloc (Nat.le_refl _) _)) W3.heap.size 0 1 x rfl (row_range (heap_alloc_new _ _)) (by omega) (by have := hW.size; simp; omega) ?_; intro g2 cap2 W4 hO4 hg4; replace hg4 : World.grownBy _ W4 (Value.slice ao (listv f m (L.take k)).length capo).ownBlock := hg4))
          rw [← T2.out, T.out] at hO4
          have hW4 := (((bthen' hW hb3).alloc (by have := hW.size; omega) _).grown hg4 (by have := hW.size; simp; omega) (fun i hi => (HO.out.lt i hi).1))
          have hlen : (listv f m (L.take k)).length + 1 = (listv f m (L.take (k + 1))).length := by rw [← T.out, T2.out]; simp
          go_roundw
          case rel => exact ⟨k + 1, by omega, by go_num, hW4, hO4⟩
          case measure => simp [intOf]; omega
        · have T2 := Lib.hid (show listStep f m (listv f m (L.take k)) x = listv f m (L.take k) from if_neg (fun h => hq h.2))
          have hq := Int.not_lt.1 hq
          go_wp2_with (first
        | (refine wpList_load_mid rfl 29 _ rfl b (off + k * 6) rfl x.cells _ hr2 Try.underlying29 rfl (letRow x) ?_)
        | (refine wpList_store_mid rfl 29 _ _ rfl wr.heap.size 0 x.cells.toArray rfl rfl (fresh_there wr x) (let_size' _) (let_one' _) ?_; show wpList _ _ _ _ _ (freshW wr x); have hx3 := fresh_range wr x; have hb3 := fresh_below wr x; have hs3 := fresh_size wr x; generalize freshW wr x = W3 at hx3 hb3 hs3 ⊢; have c3 := range_id hx3)
        | (refine wpList_load_mid rfl 29 _ rfl wr.heap.size 0 rfl x.cells _ hx3 Try.underlying29 rfl (letRow x) ?_)
        | (refine wl_build_let rfl _ rfl x rfl ?_)
        | (refine wl_append_let rfl _ _ rfl W1.heap.size _ (listv f m (L.take k)) rfl ((HO.out.below hb3).below ((Below.refl _ _).alloc (Nat.le_refl _) _)) W3.heap.size 0 1 x rfl (row_range (heap_alloc_new _ _)) (by omega) (by have := hW.size; simp; omega) ?_; intro g2 cap2 W4 hO4 hg4; replace hg4 : World.grownBy _ W4 (Value.slice ao (listv f m (L.take k)).length capo).ownBlock := hg4))
          have HO3 := HO.out.below hb3
          rw [← T2.out, T.out] at HO3
          go_roundw
          case rel => exact ⟨k + 1, by omega, by go_num, bthen' hW hb3, by rw [← T.out, T2.out] at HO3 ⊢; exact HO3⟩
          case measure => simp [intOf]; omega
      · have T2 := Lib.hid (show listStep f m (listv f m (L.take k)) x = listv f m (L.take k) from if_neg (fun h => hp h.1))
        have hp := Int.not_le.1 hp
        go_wp2_with (first
        | (refine wpList_load_mid rfl 29 _ rfl b (off + k * 6) rfl x.cells _ hr2 Try.underlying29 rfl (letRow x) ?_)
        | (refine wpList_store_mid rfl 29 _ _ rfl wr.heap.size 0 x.cells.toArray rfl rfl (fresh_there wr x) (let_size' _) (let_one' _) ?_; show wpList _ _ _ _ _ (freshW wr x); have hx3 := fresh_range wr x; have hb3 := fresh_below wr x; have hs3 := fresh_size wr x; generalize freshW wr x = W3 at hx3 hb3 hs3 ⊢; have c3 := range_id hx3)
        | (refine wpList_load_mid rfl 29 _ rfl wr.heap.size 0 rfl x.cells _ hx3 Try.underlying29 rfl (letRow x) ?_)
        | (refine wl_build_let rfl _ rfl x rfl ?_)
        | (refine wl_append_let rfl _ _ rfl W1.heap.size _ (listv f m (L.take k)) rfl ((HO.out.below hb3).below ((Below.refl _ _).alloc (Nat.le_refl _) _)) W3.heap.size 0 1 x rfl (row_range (heap_alloc_new _ _)) (by omega) (by have := hW.size; simp; omega) ?_; intro g2 cap2 W4 hO4 hg4; replace hg4 : World.grownBy _ W4 (Value.slice ao (listv f m (L.take k)).length capo).ownBlock := hg4))
        have HO3 := HO.out.below hb3
        go_roundw
        case rel => exact ⟨k + 1, by omega, by go_num, bthen' hW hb3, by rw [← T.out, T2.out]; exact HO3⟩
        case measure => simp [intOf]; omega
    · obtain rfl : k = L.length := by omega
      rw [List.take_length] at hO
      have HO := Lib.hid hO
      clear hO
      go_wp2_with fail
      go_ret
      have hs1 := hb1.size
      exact ⟨_, rfl, bthen' hb1 hW, HO.out.mono (by omega)⟩

end Go.Proofs.Ytchkbbkcflmcmaa
