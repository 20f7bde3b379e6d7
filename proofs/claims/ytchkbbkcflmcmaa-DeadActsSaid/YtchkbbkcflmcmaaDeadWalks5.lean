/- The contracts of dead's functions, going on: Purge, Load. -/
import Derived.Test.YtchkbbkcflmcmaaDeadWalks4
set_option linter.unusedVariables false
namespace Go.Proofs.Ytchkbbkcflmcmaa
open Go.RowKit

def purgeStep (id : Int) (out : List Let) (x : Let) : List Let := if id ≠ 0 ∧ x.id ≠ id then out ++ [x] else out
def purgev (id : Int) (L : List Let) : List Let := L.foldl (purgeStep id) []
theorem purgev_snoc (id : Int) (L : List Let) (x : Let) : purgev id (L ++ [x]) = purgeStep id (purgev id L) x := by unfold purgev; rw [List.foldl_append]; rfl
theorem purgev_le (id : Int) : ∀ L : List Let, (purgev id L).length ≤ L.length := by
  intro L
  have : ∀ (L : List Let) (out : List Let), (L.foldl (purgeStep id) out).length ≤ out.length + L.length := by
    intro L
    induction L with
    | nil => intro out; simp
    | cons x L ih =>
      intro out
      rw [List.foldl_cons]
      have h1 := ih (purgeStep id out x)
      have h2 : (purgeStep id out x).length ≤ out.length + 1 := by unfold purgeStep; split <;> simp
      simp; omega
  have h := this L []
  simp only [List.length_nil, Nat.zero_add] at h
  exact h

theorem purge_none (w : World) (id : Int) : Calls Try.prog 10 #[.pointer none, .int .i64 id] w fun e w' => e = .returned (.int .i64 0) ∧ w = w' := by
  go_enter Try.func10, Try.ntmps10
  go_wp2_with (go_at_call 12; refine (all_none _).mono ?_; rintro e w' ⟨rfl, rfl⟩)
  go_ret
  exact ⟨rfl, rfl⟩

theorem list_none (w : World) (f m : Int) : Calls Try.prog 13 #[.pointer none, .int .i64 f, .int .i64 m] w fun e w' => e = .returned (.slice none 0 0) ∧ w = w' := by
  go_enter Try.func13, Try.ntmps13
  go_wp2_with (go_at_call 12; refine (all_none _).mono ?_; rintro e w' ⟨rfl, rfl⟩)
  refine wp_loop_rounds 1 ?_
  rw [rounds_succ]
  go_wp2
  go_ret
  exact ⟨rfl, rfl⟩

theorem BoxAt.empty {w : World} {p g room f n : Nat} {R : Nat → Option Let} (h : BoxRaw w p g room f n R) : BoxAt ((w.setCell ⟨p, 1, none⟩ (.int .i64 0)).setCell ⟨p, 2, none⟩ (.int .i64 0)) p g room 0 [] :=
  ⟨h.room0, by simp, R, (h.first 0).count 0, fun i x hx => by simp at hx⟩

set_option maxRecDepth 100000 in
set_option maxHeartbeats 1000000 in
theorem purge_any (w : World) (p g room fst : Nat) (L : List Let) (h : BoxAt w p g room fst L) (id : Int) :
    Calls Try.prog 10 #[.pointer (some ⟨p, 0, none⟩), .int .i64 id] w fun e w' => e = .returned (.int .i64 ((L.length : Int) - ((purgev id L).length : Int))) ∧ Upd [p, g] w w' ∧ BoxAt w' p g room 0 (purgev id L) := by
  have hl : L.length ≤ 1024 := by obtain ⟨_, h1, R, h2, _⟩ := h; have := h2.room1; omega
  have hlr : L.length ≤ room := h.2.1
  have hpl : p < w.heap.size := by obtain ⟨_, h1, R, h2, _⟩ := h; exact World.block_lt_of_cell? w _ h2.c1
  have hgl : g < w.heap.size := by
    obtain ⟨_, h1, R, h2, _⟩ := h
    obtain ⟨u, hu⟩ := Option.isSome_iff_exists.1 (h2.th 0 h2.room0 0 (by omega)).1
    exact World.block_lt_of_cell? w _ hu
  go_enter Try.func10, Try.ntmps10
  go_wp2_with fail
  go_at_call 12; refine (all_any _ p g room fst L h).mono ?_; rintro e W1 ⟨v, rfl, hb1, hO1⟩
  obtain ⟨av, capv, rfl⟩ := hO1.form
  have HL := Lib.hid (hO1.out [p, g] (by simp; omega))
  have HB1 := Lib.hid (h.below hb1)
  obtain ⟨_, _, R, hraw, _⟩ := h.below hb1
  have HR := Lib.hid hraw
  have HU1 := Lib.hid (Upd.ofBelow [p, g] hb1)
  have c1 := hraw.c1
  have c2 := hraw.c2
  have f1 := hraw.f1
  have f2 := hraw.f2
  clear hO1 h hraw hb1
  go_wp2_with fail
  have HU2 := Lib.hid ((HU1.out.setCell (p := ⟨p, 1, none⟩) (by simp) (.int .i64 0)).setCell (p := ⟨p, 2, none⟩) (by simp) (.int .i64 0))
  have HL2 := Lib.hid (HL.out.upd (((Upd.refl [p, g] W1).setCell (p := ⟨p, 1, none⟩) (by simp) (.int .i64 0)).setCell (p := ⟨p, 2, none⟩) (by simp) (.int .i64 0)))
  have HB2 := Lib.hid (BoxAt.empty HR.out)
  clear HB1 HU1 HL HR c1 c2 f1 f2
  generalize (W1.setCell ⟨p, 1, none⟩ (.int .i64 0)).setCell ⟨p, 2, none⟩ (.int .i64 0) = W2 at HU2 HL2 HB2 ⊢
  go_loopw [20] (fun i wr => ∃ k : Nat, k ≤ L.length ∧ i = .int .i64 k ∧ Upd [p, g] W2 wr ∧ BoxAt wr p g room 0 (purgev id (L.take k))) (fun i _ => L.length - (intOf i).toNat)
  case atStart => exact ⟨0, by omega, rfl, Upd.refl _ _, HB2.out⟩
  case round =>
    obtain ⟨k, hk, rfl, hU, hB⟩ := hrel
    by_cases hlt : k < L.length
    · obtain ⟨x, hx⟩ : ∃ x, L[k]? = some x := ⟨_, List.getElem?_eq_getElem hlt⟩
      obtain ⟨b, off, rfl, hr2⟩ : ∃ b off, av = some ⟨b, off, none⟩ ∧ wr.rangeAt b (off + k * 6) x.cells := by
        rcases HL2.out.upd hU with ⟨h0, _⟩ | ⟨b, off, cap, hv, _, hr⟩
        · rw [h0] at hlt; simp at hlt
        · simp only [Value.slice.injEq] at hv
          exact ⟨b, off, hv.1, hr k x hx⟩
      have T := Lib.hid (show purgeStep id (purgev id (L.take k)) x = purgev id (L.take (k + 1)) by rw [← purgev_snoc, take_snoc hx])
      have hlo := purgev_le id (L.take k)
      have hlk : (L.take k).length = k := by simp; omega
      have HB := Lib.hid hB
      have HU := Lib.hid hU
      clear hx hB hU
      by_cases hp : id = 0
      · have T2 := Lib.hid (show purgeStep id (purgev id (L.take k)) x = purgev id (L.take k) from if_neg (fun h => h.1 hp))
        have hpb : (id != 0) = false := by simp [hp]
        clear hp
        go_wp2_with (first
        | (refine wpList_load_mid rfl 29 _ rfl b (off + k * 6) rfl x.cells _ hr2 Try.underlying29 rfl (letRow x) ?_)
        | (refine wpList_store_mid rfl 29 _ _ rfl wr.heap.size 0 x.cells.toArray rfl rfl (fresh_there wr x) (let_size' _) (let_one' _) ?_; show wpList _ _ _ _ _ (freshW wr x); have hx3 := fresh_range wr x; have hb3 := fresh_below wr x; have hs3 := fresh_size wr x; generalize freshW wr x = W3 at hx3 hb3 hs3 ⊢; have c3 := range_id hx3)
        | (refine wpList_load_mid rfl 29 _ rfl wr.heap.size 0 rfl x.cells _ hx3 Try.underlying29 rfl (letRow x) ?_)
        | (go_at_call 7; refine (put_room _ p g room 0 (purgev id (L.take k)) (HB.out.below hb3) x (by omega)).mono ?_; rintro e W4 ⟨rfl, hU4, hB4⟩))
        have HB3 := HB.out.below hb3
        rw [← T2.out, T.out] at HB3
        go_roundw
        case rel => exact ⟨k + 1, by omega, by go_num, HU.out.trans (Upd.ofBelow _ hb3), HB3⟩
        case measure => simp [intOf]; omega
      · by_cases hq : x.id = id
        · have T2 := Lib.hid (show purgeStep id (purgev id (L.take k)) x = purgev id (L.take k) from if_neg (fun h => h.2 hq))
          have hpb : (id != 0) = true := by simp [hp]
          have hqb : (x.id != id) = false := by simp [hq]
          clear hp hq
          go_wp2_with (first
        | (refine wpList_load_mid rfl 29 _ rfl b (off + k * 6) rfl x.cells _ hr2 Try.underlying29 rfl (letRow x) ?_)
        | (refine wpList_store_mid rfl 29 _ _ rfl wr.heap.size 0 x.cells.toArray rfl rfl (fresh_there wr x) (let_size' _) (let_one' _) ?_; show wpList _ _ _ _ _ (freshW wr x); have hx3 := fresh_range wr x; have hb3 := fresh_below wr x; have hs3 := fresh_size wr x; generalize freshW wr x = W3 at hx3 hb3 hs3 ⊢; have c3 := range_id hx3)
        | (refine wpList_load_mid rfl 29 _ rfl wr.heap.size 0 rfl x.cells _ hx3 Try.underlying29 rfl (letRow x) ?_)
        | (go_at_call 7; refine (put_room _ p g room 0 (purgev id (L.take k)) (HB.out.below hb3) x (by omega)).mono ?_; rintro e W4 ⟨rfl, hU4, hB4⟩))
          have HB3 := HB.out.below hb3
          rw [← T2.out, T.out] at HB3
          go_roundw
          case rel => exact ⟨k + 1, by omega, by go_num, HU.out.trans (Upd.ofBelow _ hb3), HB3⟩
          case measure => simp [intOf]; omega
        · have T2 := Lib.hid (show purgeStep id (purgev id (L.take k)) x = purgev id (L.take k) ++ [x] from if_pos ⟨hp, hq⟩)
          have hpb : (id != 0) = true := by simp [hp]
          have hqb : (x.id != id) = true := by simp [hq]
          clear hp hq
          go_wp2_with (first
        | (refine wpList_load_mid rfl 29 _ rfl b (off + k * 6) rfl x.cells _ hr2 Try.underlying29 rfl (letRow x) ?_)
        | (refine wpList_store_mid rfl 29 _ _ rfl wr.heap.size 0 x.cells.toArray rfl rfl (fresh_there wr x) (let_size' _) (let_one' _) ?_; show wpList _ _ _ _ _ (freshW wr x); have hx3 := fresh_range wr x; have hb3 := fresh_below wr x; have hs3 := fresh_size wr x; generalize freshW wr x = W3 at hx3 hb3 hs3 ⊢; have c3 := range_id hx3)
        | (refine wpList_load_mid rfl 29 _ rfl wr.heap.size 0 rfl x.cells _ hx3 Try.underlying29 rfl (letRow x) ?_)
        | (go_at_call 7; refine (put_room _ p g room 0 (purgev id (L.take k)) (HB.out.below hb3) x (by omega)).mono ?_; rintro e W4 ⟨rfl, hU4, hB4⟩))
          rw [← T2.out, T.out] at hB4
          go_roundw
          case rel => exact ⟨k + 1, by omega, by go_num, (HU.out.trans (Upd.ofBelow _ hb3)).trans hU4, hB4⟩
          case measure => simp [intOf]; omega
    · obtain rfl : k = L.length := by omega
      rw [List.take_length] at hB
      have hlo := purgev_le id L
      have HU := Lib.hid hU
      have c2 : wr.cell? ⟨p, 2, none⟩ = some (.int .i64 ((purgev id L).length : Nat)) := by obtain ⟨_, _, R, h2, _⟩ := hB; exact h2.c2
      have HB := Lib.hid hB
      clear hB hU
      go_wp2_with fail
      go_ret
      exact ⟨rfl, HU2.out.trans HU.out, HB.out⟩

end Go.Proofs.Ytchkbbkcflmcmaa
