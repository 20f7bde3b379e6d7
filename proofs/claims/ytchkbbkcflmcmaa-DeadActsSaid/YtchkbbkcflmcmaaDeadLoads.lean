/- The walk of the statement on loading. -/
import Derived.Test.YtchkbbkcflmcmaaDeadLive
import Derived.Deep.RegionHeld3
set_option linter.unusedVariables false
namespace Go.Proofs.Ytchkbbkcflmcmaa
open Go.RowKit

def putv (room : Int) (L : List Let) (x : Let) : List Let := if room < L.length + 1 then (L ++ [x]).tail else L ++ [x]

theorem putv_le (room : Int) (L : List Let) (x : Let) : (putv room L x).length ≤ L.length + 1 := by
  unfold putv; split <;> simp

theorem put_both (w : World) (p g room fst : Nat) (L : List Let) (h : BoxAt w p g room fst L) (x : Let) :
    Calls Try.prog 7 #[.pointer (some ⟨p, 0, none⟩), .agg x.cells.toArray] w fun e w' => ∃ ret f', e = .returned ret ∧ Upd [p, g] w w' ∧ BoxAt w' p g room f' (putv room L x) := by
  have hl := h.2.1
  by_cases hn : L.length < room
  · refine (put_room w p g room fst L h x hn).mono ?_
    rintro e w' ⟨rfl, hU, hB⟩
    refine ⟨_, fst, rfl, hU, ?_⟩
    unfold putv
    rw [if_neg (by omega)]
    exact hB
  · have hr : L.length = room := by omega
    have h0 : 0 < L.length := by have := h.1; omega
    refine (put_full w p g room fst L h x L[0] hr (List.getElem?_eq_getElem h0)).mono ?_
    rintro e w' ⟨rfl, hU, hB⟩
    refine ⟨_, (fst + 1) % room, rfl, hU, ?_⟩
    unfold putv
    rw [if_pos (by omega), List.tail_append_of_ne_nil (by intro e; rw [e] at h0; simp at h0)]
    exact hB

theorem six_cells {w : World} {b : Nat} {x : Let} (h : w.rangeAt b 0 x.cells) : w.cell? ⟨b, 0, none⟩ = some (.int .i64 x.id) ∧ w.cell? ⟨b, 1, none⟩ = some (.int .i64 x.tn) ∧ w.cell? ⟨b, 2, none⟩ = some (.int .i64 x.ats) ∧ w.cell? ⟨b, 3, none⟩ = some (.int .i64 x.cd) ∧ w.cell? ⟨b, 4, none⟩ = some (.string x.key) ∧ w.cell? ⟨b, 5, none⟩ = some (.int .u64 x.tm) := by
  refine ⟨?_, ?_, ?_, ?_, ?_, ?_⟩
  · simpa using h 0 _ rfl
  · simpa using h 1 _ rfl
  · simpa using h 2 _ rfl
  · simpa using h 3 _ rfl
  · simpa using h 4 _ rfl
  · simpa using h 5 _ rfl

theorem deadLoads_far (w : World) (room : Int) (v : Value) (L : List Let) (hv : Lts w v L) (x : Let) (h : 60 < L.length ∨ 1024 < room) :
    Calls Try.prog 4 #[.int .i64 room, v, .agg x.cells.toArray] w fun e w' => e = .returned (.bool true) ∧ Below w.heap.size w w' := by
  obtain ⟨av, capv, rfl⟩ := hv.form
  by_cases h1 : 60 < L.length
  · go_enter Try.func4, Try.ntmps4
    go_wp2_with (go_at_call 5; refine (live33_any _).mono ?_; rintro e w1 ⟨rfl, hb1⟩)
    go_ret
    exact ⟨rfl, bthen' ((Below.refl _ _).alloc (Nat.le_refl _) _) hb1⟩
  · have h2 : 1024 < room := by rcases h with h | h; exact absurd h h1; exact h
    go_enter Try.func4, Try.ntmps4
    go_wp2_with (go_at_call 5; refine (live33_any _).mono ?_; rintro e w1 ⟨rfl, hb1⟩)
    go_ret
    exact ⟨rfl, bthen' ((Below.refl _ _).alloc (Nat.le_refl _) _) hb1⟩

set_option maxRecDepth 100000 in
set_option maxHeartbeats 1000000 in
theorem deadLoads_no (w : World) (room : Int) (v : Value) (L : List Let) (hv : Lts w v L) (x : Let) (h1 : L.length ≤ 60) (h2 : room ≤ 1024) (h : room < 1 ∨ room < L.length) :
    Calls Try.prog 4 #[.int .i64 room, v, .agg x.cells.toArray] w fun e w' => e = .returned (.bool true) ∧ Below w.heap.size w w' := by
  obtain ⟨av, capv, rfl⟩ := hv.form
  have hX := row_range (x := x) (heap_alloc_new w (.cells x.cells.toArray 29))
  have hW : Below w.heap.size w (w.alloc (.cells x.cells.toArray 29)) := (Below.refl _ _).alloc (Nat.le_refl _) _
  have hv1 := hv.below hW
  have HV := Lib.hid hv1
  clear hv hv1
  by_cases hr : room < 1
  · have HH := Lib.hid (show room < 1 ∨ room < L.length from .inl hr)
    clear h
    go_enter Try.func4, Try.ntmps4
    go_wp2_with fail
    generalize w.alloc (.cells x.cells.toArray 29) = W0 at hX hW HV ⊢
    go_wp2_with (first
      | (go_at_call 15; refine (load_no _ _ _ L HV.out h2 HH.out).mono ?_; rintro e W1 ⟨rfl, hb1⟩; have hX1 := below_range hb1 hX; have hW1 := bthen' hW hb1; clear hb1 hX hW)
      | (refine wpList_load_mid rfl 29 _ rfl w.heap.size 0 rfl x.cells _ hX1 Try.underlying29 rfl (letRow x) ?_)
      | (go_at_call 7; refine (put_none _ x).mono ?_; rintro e W2 ⟨rfl, hb2⟩; have hX2 := below_range hb2 hX1; have hW2 := bthen' hW1 hb2; clear hb2 hX1 hW1)
      | (refine wpList_store_mid rfl 29 _ _ rfl W2.heap.size 0 zeroLet.cells.toArray rfl rfl (fresh_there W2 zeroLet) (let_size' _) (let_one' _) ?_; show wpList _ _ _ _ _ (freshW W2 zeroLet); have hb5 := fresh_below W2 zeroLet; generalize freshW W2 zeroLet = W5 at hb5 ⊢; have hX5 := below_range hb5 hX2; have c5 := range_id hX5; have hW5 := bthen' hW2 hb5; clear hb5 hX2 hW2)
      | (go_at_call 10; refine (purge_none _ _).mono ?_; rintro e w' ⟨rfl, rfl⟩)
      | (go_at_call 12; refine (all_none _).mono ?_; rintro e w' ⟨rfl, rfl⟩)
      | (go_at_call 13; refine (list_none _ _ _).mono ?_; rintro e w' ⟨rfl, rfl⟩)
      | (go_at_call 5; refine (live33_any _).mono ?_; rintro e w6 ⟨rfl, hb6⟩))
    go_ret
    exact ⟨rfl, bthen' hW5 hb6⟩
  · have hr2 : room < L.length := by rcases h with h | h; exact absurd h hr; exact h
    have hr3 : 1 ≤ room := Int.not_lt.1 hr
    have HH := Lib.hid (show room < 1 ∨ room < L.length from .inr hr2)
    clear h hr
    go_enter Try.func4, Try.ntmps4
    go_wp2_with fail
    generalize w.alloc (.cells x.cells.toArray 29) = W0 at hX hW HV ⊢
    go_wp2_with (first
      | (go_at_call 15; refine (load_no _ _ _ L HV.out h2 HH.out).mono ?_; rintro e W1 ⟨rfl, hb1⟩; have hX1 := below_range hb1 hX; have hW1 := bthen' hW hb1; clear hb1 hX hW)
      | (refine wpList_load_mid rfl 29 _ rfl w.heap.size 0 rfl x.cells _ hX1 Try.underlying29 rfl (letRow x) ?_)
      | (go_at_call 7; refine (put_none _ x).mono ?_; rintro e W2 ⟨rfl, hb2⟩; have hX2 := below_range hb2 hX1; have hW2 := bthen' hW1 hb2; clear hb2 hX1 hW1)
      | (refine wpList_store_mid rfl 29 _ _ rfl W2.heap.size 0 zeroLet.cells.toArray rfl rfl (fresh_there W2 zeroLet) (let_size' _) (let_one' _) ?_; show wpList _ _ _ _ _ (freshW W2 zeroLet); have hb5 := fresh_below W2 zeroLet; generalize freshW W2 zeroLet = W5 at hb5 ⊢; have hX5 := below_range hb5 hX2; have c5 := range_id hX5; have hW5 := bthen' hW2 hb5; clear hb5 hX2 hW2)
      | (go_at_call 10; refine (purge_none _ _).mono ?_; rintro e w' ⟨rfl, rfl⟩)
      | (go_at_call 12; refine (all_none _).mono ?_; rintro e w' ⟨rfl, rfl⟩)
      | (go_at_call 13; refine (list_none _ _ _).mono ?_; rintro e w' ⟨rfl, rfl⟩)
      | (go_at_call 5; refine (live33_any _).mono ?_; rintro e w6 ⟨rfl, hb6⟩))
    go_ret
    exact ⟨rfl, bthen' hW5 hb6⟩

set_option maxRecDepth 100000 in
set_option maxHeartbeats 1000000 in
theorem deadLoads_yes (w : World) (room : Nat) (v : Value) (L : List Let) (hv : Lts w v L) (x : Let) (h1 : L.length ≤ 60) (h2 : room ≤ 1024) (h3 : 1 ≤ room) (h4 : L.length ≤ room) :
    Calls Try.prog 4 #[.int .i64 room, v, .agg x.cells.toArray] w fun e w' => e = .returned (.bool true) ∧ Below w.heap.size w w' := by
  obtain ⟨av, capv, rfl⟩ := hv.form
  have hX := row_range (x := x) (heap_alloc_new w (.cells x.cells.toArray 29))
  have hW : Below w.heap.size w (w.alloc (.cells x.cells.toArray 29)) := (Below.refl _ _).alloc (Nat.le_refl _) _
  have hv1 := hv.below hW
  have HV := Lib.hid hv1
  clear hv hv1
  go_enter Try.func4, Try.ntmps4
  go_wp2_with fail
  have hsz : w.heap.size < (w.alloc (.cells x.cells.toArray 29)).heap.size := by simp
  generalize w.alloc (.cells x.cells.toArray 29) = W0 at hX hW HV hsz ⊢
  go_wp2_with (first
      | (go_at_call 15; refine (load_yes _ room _ L HV.out h3 h2 h4).mono ?_; rintro e W1 ⟨p, g, rfl, hb1, hp, hg, hB1⟩; have hX1 := below_range hb1 hX; have hW1 := bthen' hW hb1; have HV1 := Lib.hid (HV.out.below hb1); clear hb1 hX hW)
      | (refine wpList_load_mid rfl 29 _ rfl w.heap.size 0 rfl x.cells _ hX1 Try.underlying29 rfl (letRow x) ?_)
      | (go_at_call 7; with_reducible refine (put_none _ x).mono ?_; rintro e W2 ⟨rfl, hb2⟩; have hX2 := below_range hb2 hX1; have hW2 := bthen' hW1 hb2; have hB2 := hB1.below hb2; have HV2 := Lib.hid (HV1.out.below hb2); clear hb2 hX1 hW1)
      | (refine wpList_store_mid rfl 29 _ _ rfl W2.heap.size 0 zeroLet.cells.toArray rfl rfl (fresh_there W2 zeroLet) (let_size' _) (let_one' _) ?_; show wpList _ _ _ _ _ (freshW W2 zeroLet); have hb5 := fresh_below W2 zeroLet; generalize freshW W2 zeroLet = W5 at hb5 ⊢; have hX5 := below_range hb5 hX2; have c5 := range_id hX5; have hW5 := bthen' hW2 hb5; have hB5 := hB2.below hb5; have HV5 := Lib.hid (HV2.out.below hb5); clear hb5 hX2 hW2)
      | (go_at_call 10; refine (purge_none _ _).mono ?_; rintro e w' ⟨rfl, rfl⟩)
      | (go_at_call 13; refine (list_none _ _ _).mono ?_; rintro e w' ⟨rfl, rfl⟩)
      | (go_at_call 12; first
          | (with_reducible refine (all_none _).mono ?_; rintro e w' ⟨rfl, rfl⟩)
          | (refine (all_any _ p g room 0 L hB5).mono ?_; rintro e W6 ⟨v6, rfl, hb6, hO6⟩; have hX6 := below_range hb6 hX5; have hW6 := bthen' hW5 hb6; have hB6 := hB5.below hb6; have HV6 := Lib.hid (HV5.out.below hb6); clear hb6 hX5 hW5))
      | (refine wpList_load_mid rfl 29 _ rfl w.heap.size 0 rfl x.cells _ hX7 Try.underlying29 rfl (letRow x) ?_)
      | (go_at_call 7; with_reducible refine (put_both _ p g room 0 L hB7 x).mono ?_; rintro e W8 ⟨ret8, f8, rfl, hU8, hB8⟩)
      | (go_at_call 11; refine (letters_any _ _ _ L L hO6.lts HV6.out (by omega)).mono ?_; rintro e W7 ⟨rfl, hb7⟩; have hX7 := below_range hb7 hX6; have hW7 := bthen' hW6 hb7; have hB7 := hB6.below hb7; have HV7 := Lib.hid (HV6.out.below hb7)))
  have hW8 := hU8.toBelow hW7 hW7.size (by simp; omega)
  have hX8 := hU8.range (by simp; omega) hX7
  have HV8 := Lib.hid (show Lts W8 (.slice av L.length capv) L from by
    rcases HV7.out with h | ⟨b, off, cap, hv, hr⟩
    · exact .inl h
    · exact .inr ⟨b, off, cap, hv, fun i y hy => hU8.range (by
        have hb0 : b < W0.heap.size := by
          obtain ⟨b0, o0, e0, r0⟩ := HV.out.at hy
          simp only [Value.slice.injEq] at hv
          have h9 := hv.1
          rw [e0] at h9
          cases h9
          exact World.block_lt_of_cell? W0 _ (r0 0 _ rfl)
        simp; omega) (hr i y hy)⟩)
  have hHX := Lib.hid hX8
  go_region_held3 (fun w' => w'.cell? ⟨w.heap.size, 0, none⟩ = some (.int .i64 x.id) ∧ w'.cell? ⟨w.heap.size, 1, none⟩ = some (.int .i64 x.tn) ∧ w'.cell? ⟨w.heap.size, 2, none⟩ = some (.int .i64 x.ats) ∧ w'.cell? ⟨w.heap.size, 3, none⟩ = some (.int .i64 x.cd) ∧ w'.cell? ⟨w.heap.size, 4, none⟩ = some (.string x.key) ∧ w'.cell? ⟨w.heap.size, 5, none⟩ = some (.int .u64 x.tm)) (first | exact six_cells hX8 | exact six_cells ((World.rangeAt_drew _ _ _ _).2 hX8) | exact six_cells hX9 | exact six_cells hX10 | exact six_cells hX11 | exact six_cells hX12) (first
    | (go_at_call 12; refine (all_any _ p g room f8 _ (hB8.below (Below.refl _ _).drew)).mono ?_; rintro e W9 ⟨v9, rfl, hb9, hO9⟩; have hX9 := below_range hb9 ((World.rangeAt_drew _ _ _ _).2 hX8))
    | (go_at_call 8; refine (refPut_region _ room _ x L ((HV8.out.below (Below.refl _ _).drew).below hb9) (by omega)).mono ?_; rintro e W10 ⟨v10, rfl, hb10, hL10⟩; replace hL10 : Lts W10 v10 (putv room L x) := hL10; have hX10 := below_range hb10 hX9)
    | (go_at_call 11; refine (letters_any _ _ _ (putv room L x) (putv room L x) (hO9.lts.below hb10) hL10 (by have := putv_le room L x; omega)).mono ?_; rintro e W11 ⟨rfl, hb11⟩; have hX11 := below_range hb11 hX10)
    | (go_at_call 5; refine (live33_any _).mono ?_; rintro e W12 ⟨rfl, hb12⟩; have hX12 := below_range hb12 hX11))
  go_wp2_with fail
  go_ret
  exact ⟨rfl, bthen' (bthen' (bthen' (bthen' (bthen' hW8 (Below.refl _ _).drew) hb9) hb10) hb11) hb12⟩

end Go.Proofs.Ytchkbbkcflmcmaa
