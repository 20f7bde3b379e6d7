/- The walk of the statement on loading. -/
import Derived.Test.YtbghodknnejihaaWatActs
set_option linter.unusedVariables false
namespace Go.Proofs.Ytbghodknnejihaa
open Go.RowKit

def shortB (L : List Wat) : Bool := L.all fun x => decide (x.name.size ≤ 300)

set_option maxRecDepth 100000 in
set_option maxHeartbeats 1600000 in
theorem watchLoads_long (w : World) (room : Int) (v : Value) (L : List Wat) (hv : Reads watR w v L) (op : Int) (h : L.length ≤ 60) (hl : shortB L = false) :
    Calls Try.prog 4 #[.int .i64 room, v, .int .i64 op] w fun e w' => e = .returned (.bool true) ∧ Below w.heap.size w w' := by
  obtain ⟨av, capv, rfl⟩ := hv.form
  have HV := Lib.hid hv
  have HL := Lib.hid hl
  clear hv hl
  go_enter Try.func4, Try.ntmps4
  go_wp2_with fail
  go_loopw [7] (fun i wr => ∃ k : Nat, k ≤ L.length ∧ i = .int .i64 k ∧ w = wr ∧ shortB (L.take k) = true) (fun i _ => L.length - (intOf i).toNat)
  case atStart => exact ⟨0, by omega, rfl, rfl, rfl⟩
  case round =>
    obtain ⟨k, hk, rfl, rfl, hs⟩ := hrel
    have HS := Lib.hid hs
    clear hs
    by_cases hlt : k < L.length
    · obtain ⟨x, hx⟩ : ∃ x, L[k]? = some x := ⟨_, List.getElem?_eq_getElem hlt⟩
      obtain ⟨b, off, rfl, hr⟩ := HV.out.at hx
      have m0 : w.cell? ⟨b, off + k * 2, none⟩ = some (.string x.name) := by show w.cell? ⟨b, off + k * watR.n, none⟩ = _; simpa using hr 0 _ rfl
      clear hr
      by_cases hlong : 300 < x.name.size
      · clear hx
        go_wp2_with (go_at_call 6; refine (live34_any _).mono ?_; rintro e w1 ⟨rfl, hb1⟩)
        go_ret
        exact ⟨rfl, hb1⟩
      · have HT := Lib.hid (show shortB (L.take (k + 1)) = true from by
          rw [← take_snoc hx]; unfold shortB at *; rw [List.all_append, HS.out]; simp; omega)
        clear hx
        go_wp2_with fail
        go_roundw
        case rel => exact ⟨k + 1, by omega, by go_num, trivial, HT.out⟩
        case measure => simp [intOf]; omega
    · exfalso
      have := HS.out
      rw [show k = L.length by omega, List.take_length, HL.out] at this
      cases this

set_option maxRecDepth 100000 in
set_option maxHeartbeats 3200000 in
theorem watchLoads_short (w : World) (room : Int) (v : Value) (L : List Wat) (hv : Reads watR w v L) (op : Int) (h : L.length ≤ 60) (hl : shortB L = true) :
    Calls Try.prog 4 #[.int .i64 room, v, .int .i64 op] w fun e w' => e = .returned (.bool true) ∧ Below w.heap.size w w' := by
  have hs : ∀ x ∈ L, x.name.size ≤ 300 := by
    intro x hx
    unfold shortB at hl
    rw [List.all_eq_true] at hl
    simpa using hl x hx
  have hs2 := Lib.hid (show ∀ x ∈ L, x.name.size ≤ 9223372036854775807 from fun x hx => by have := hs x hx; omega)
  obtain ⟨av, capv, rfl⟩ := hv.form
  have HV := Lib.hid hv
  have HS := Lib.hid hs
  clear hv hs hl
  go_enter Try.func4, Try.ntmps4
  go_wp2_with fail
  go_loopw [7] (fun i wr => ∃ k : Nat, k ≤ L.length ∧ i = .int .i64 k ∧ w = wr) (fun i _ => L.length - (intOf i).toNat)
  case atStart => exact ⟨0, by omega, rfl, rfl⟩
  case round =>
    obtain ⟨k, hk, rfl, rfl⟩ := hrel
    by_cases hlt : k < L.length
    · obtain ⟨x, hx⟩ : ∃ x, L[k]? = some x := ⟨_, List.getElem?_eq_getElem hlt⟩
      obtain ⟨b, off, rfl, hr⟩ := HV.out.at hx
      have m0 : w.cell? ⟨b, off + k * 2, none⟩ = some (.string x.name) := by show w.cell? ⟨b, off + k * watR.n, none⟩ = _; simpa using hr 0 _ rfl
      have hlong := HS.out x (List.mem_of_getElem? hx)
      clear hr hx
      go_wp2_with fail
      go_roundw
      case rel => exact ⟨k + 1, by omega, by go_num, trivial⟩
      case measure => simp [intOf]; omega
    · have hnone := add_none
      cases hR : rightv room L with
      | false =>
        have cL : ∀ w, Reads watR w (.slice av L.length capv) L → Calls Try.prog 16 #[.int .i64 room, .slice av L.length capv] w fun e w' => e = .returned (.tuple #[.pointer none, .bool false]) ∧ Below w.heap.size w w' := fun w hv => by
          by_cases hr : room < 0
          · exact load_low w room _ L hv hr
          · refine (load_any w room _ L hv (by omega) hs2.out (by omega)).mono ?_
            rintro e w' (⟨h1, _⟩ | ⟨_, h2⟩)
            · exfalso; unfold rightv at hR; rw [h1] at hR; simp at hR; omega
            · exact h2
        have cR : ∀ w, Reads watR w (.slice av L.length capv) L → Calls Try.prog 17 #[.int .i64 room, .slice av L.length capv] w fun e w' => e = .returned (.bool false) ∧ Below w.heap.size w w' := fun w hv => by
          have := refRight_any w room _ L hv hs2.out (by omega)
          rw [hR] at this
          exact this
        have CL := Lib.hid cL
        have CR := Lib.hid cR
        clear cL cR hR hnone
        go_wp2_with (first
          | (go_at_call 16; refine (CL.out _ HV.out).mono ?_; rintro e W1 ⟨rfl, hb1⟩)
          | (go_at_call 17; refine (CR.out _ (HV.out.below hb1)).mono ?_; rintro e W2 ⟨rfl, hb2⟩)
          | (go_at_call 10; refine (add_none _ (wa 97 1)).mono ?_; rintro e W3 ⟨rfl, hb3⟩)
          | (go_at_call 8; refine (num_any _ _).mono ?_; rintro e w' ⟨rfl, rfl⟩)
          | (go_at_call 15; refine (all_none _).mono ?_; rintro e w' ⟨rfl, rfl⟩)
          | (go_at_call 13; refine (take_none _ _).mono ?_; rintro e W4 ⟨rfl, hb4⟩)
          | (go_at_call 6; refine (live34_any _).mono ?_; rintro e W5 ⟨rfl, hb5⟩))
        go_ret
        exact ⟨rfl, bthen' (bthen' (bthen' (bthen' hb1 hb2) hb3) hb4) hb5⟩
      | true =>
        have hr0 : 0 ≤ room := by unfold rightv at hR; simp at hR; exact hR.1
        have hF : rightF room [] L = true := by unfold rightv at hR; simp at hR; exact hR.2
        have cL : ∀ w, Reads watR w (.slice av L.length capv) L → Calls Try.prog 16 #[.int .i64 room, .slice av L.length capv] w (Loaded w room L) := fun w hv => by
          refine (load_any w room _ L hv hr0 hs2.out (by omega)).mono ?_
          rintro e w' (⟨_, h1⟩ | ⟨h1, _⟩)
          · exact h1
          · rw [hF] at h1; cases h1
        have cR : ∀ w, Reads watR w (.slice av L.length capv) L → Calls Try.prog 17 #[.int .i64 room, .slice av L.length capv] w fun e w' => e = .returned (.bool true) ∧ Below w.heap.size w w' := fun w hv => by
          have := refRight_any w room _ L hv hs2.out (by omega)
          rw [hR] at this
          exact this
        have CL := Lib.hid cL
        have CR := Lib.hid cR
        clear cL cR hR hF hnone
        have hln : (nov op L).length ≤ L.length := List.length_filter_le _ _
        have hly : ((yesv op L).map Wat.name).length ≤ L.length := by rw [List.length_map]; exact List.length_filter_le _ _
        go_wp2_with (first
          | (go_at_call 13; with_reducible refine (take_none _ _).mono ?_; rintro e W4 ⟨rfl, hb4⟩; have hD4 := Lib.hid ((hD2.out.below hb3).below hb4); have HV4 := Lib.hid ((HV2.out.below hb3).below hb4))
          | (go_at_call 15; with_reducible refine (all_none _).mono ?_; rintro e w' ⟨rfl, rfl⟩)
          | (go_at_call 6; refine (live34_any _).mono ?_; rintro e W12 ⟨rfl, hb12⟩)
          | (go_at_call 14; refine (sameWat_any _ _ _ (nov op L) (nov op L) (hO10.lts watOk) (((HN8.out.below hb9).below hb10).lts watOk) (by omega)).mono ?_; rintro e W11 ⟨rfl, hb11⟩)
          | (go_at_call 15; refine (all_any _ _ p room _ _ (hD8.below hb9) (by omega)).mono ?_; rintro e W10 ⟨v10, rfl, hb10, hO10⟩)
          | (go_at_call 12; refine (texts_any _ _ _ ((yesv op L).map Wat.name) ((yesv op L).map Wat.name) (hO8.lts strOk) (HY8.out.lts strOk) (by omega)).mono ?_; rintro e W9 ⟨rfl, hb9⟩)
          | (go_at_call 13; refine (take_any W7 w.heap.size p room u L (hD6.out.below hb7) op (by omega) (by have := hb1.size; have := hb2.size; have := hb3.size; have := hb4.size; have := hb5.size; have := hb6.size; have := hb7.size; omega)).mono ?_; rintro e W8 ⟨out, rfl, ⟨u8, hU8, hD8, hF8⟩, hO8, hN8⟩; have HY8 := Lib.hid (hY7.upd hU8 (fun j hj hin => by have := (hlow j hin).2; have := (hY7.lt j hj).1; have := hb2.size; have := hb3.size; have := hb4.size; have := hb5.size; have := hb6.size; omega)); have HN8 := Lib.hid (hN7.upd hU8 (fun j hj hin => by have := (hlow j hin).2; have := (hN7.lt j hj).1; have := hb2.size; have := hb3.size; have := hb4.size; have := hb5.size; have := hb6.size; omega)))
          | (go_at_call 11; refine (refTake_any W6 op _ L HV6.out (by omega)).mono ?_; rintro e W7 ⟨y7, n7, rfl, hb7, hY7, hN7⟩; obtain ⟨a7, cap7, rfl⟩ := hN7.form)
          | (go_at_call 14; refine (sameWat_any _ _ _ L L (hO5.lts watOk) (HV4.out.below hb5) (by omega)).mono ?_; rintro e W6 ⟨rfl, hb6⟩; have hD6 := Lib.hid ((hD4.out.below hb5).below hb6); have HV6 := Lib.hid ((HV4.out.below hb5).below hb6))
          | (go_at_call 15; refine (all_any _ _ p room _ _ hD4.out (by omega)).mono ?_; rintro e W5 ⟨v5, rfl, hb5, hO5⟩)
          | (go_at_call 8; refine (num_any _ _).mono ?_; rintro e w' ⟨rfl, rfl⟩)
          | (go_at_call 10; refine (add_none _ (wa 97 1)).mono ?_; rintro e W3 ⟨rfl, hb3⟩)
          | (go_at_call 17; refine (CR.out _ (HV.out.below hb1)).mono ?_; rintro e W2 ⟨rfl, hb2⟩; have hD2 := Lib.hid (hD1.below hb2); have HV2 := Lib.hid ((HV.out.below hb1).below hb2); have hs2 := hb2.size)
          | (go_at_call 16; refine (CL.out _ HV.out).mono ?_; rintro e W1 ⟨p, u, rfl, hb1, hD1⟩; have hlow := hD1.lt))
        go_ret
        have hW7 := bthen' (bthen' (bthen' (bthen' (bthen' (bthen' hb1 hb2) hb3) hb4) hb5) hb6) hb7
        have hW8 := hU8.toBelow hW7 hW7.size (fun i hi => (hlow i hi).1)
        exact ⟨rfl, bthen' (bthen' (bthen' (bthen' hW8 hb9) hb10) hb11) hb12⟩

theorem watchLoads_of (room : Int) (v : Value) (L : List Wat) (op : Int) (w : World) (hv : Reads watR w v L) :
    Calls Try.prog 4 #[.int .i64 room, v, .int .i64 op] w fun e w' => e = .returned (.bool true) ∧ Below w.heap.size w w' := by
  by_cases h1 : 60 < L.length
  · obtain ⟨av, capv, rfl⟩ := hv.form
    go_enter Try.func4, Try.ntmps4
    go_wp2_with (go_at_call 6; refine (live34_any _).mono ?_; rintro e w1 ⟨rfl, hb1⟩)
    go_ret
    exact ⟨rfl, hb1⟩
  · cases hl : shortB L with
    | false => exact watchLoads_long w room v L hv op (by omega) hl
    | true => exact watchLoads_short w room v L hv op (by omega) hl

end Go.Proofs.Ytbghodknnejihaa
