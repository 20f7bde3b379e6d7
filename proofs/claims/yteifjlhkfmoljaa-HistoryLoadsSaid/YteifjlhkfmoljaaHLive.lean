/- The page's example of a history's table. -/
import Derived.Test.YteifjlhkfmoljaaHClass
set_option linter.unusedVariables false
namespace Go.Proofs.Yteifjlhkfmoljaa
open Go.RowKit

theorem two_ints (w : World) (a b : Int) : Reads intR (w.alloc (.cells #[.int .i64 a, .int .i64 b] 3)) (.slice (some ⟨w.heap.size, 0, none⟩) 2 2) [a, b] := by
  refine .inr ⟨w.heap.size, 0, 2, rfl, fun i x hx j v hv => ?_⟩
  rw [cell_of_row _ w.heap.size _ _ 3 (0, 0) (heap_alloc_new _ _)]
  have hj : j = 0 ∧ v = .int .i64 x := by
    cases j with
    | zero => simp [Rec.cells, intR, Value.cells] at hv; exact ⟨rfl, hv.symm⟩
    | succ j => simp [Rec.cells, intR, Value.cells] at hv
  obtain ⟨rfl, rfl⟩ := hj
  match i, hx with
  | 0, hx => simp at hx; subst hx; rfl
  | 1, hx => simp at hx; subst hx; rfl
  | i + 2, hx => simp at hx

theorem class_eq {z : Int} (w : World) (B h t : Nat) (room : Int) (c m : Nat) (E : List (Ent Hs)) (H : HTab B w h t room c m E) (k : ByteArray) (v : Value) (L : List Int) (hv : Reads intR w v L) (hL : ∀ n ∈ L, inI n) (hbig : L.length ≤ 1000) (p : Int) (hz : clsV (look k (rws E)) L p = z) :
    Calls Try.prog 9 #[.pointer (some ⟨h, 0, none⟩), .string k, v, .int .i64 p] w fun e w' => e = .returned (.int .i64 z) ∧ Below w.heap.size w w' := by
  subst hz
  exact class_any w B h t room c m E H k v L hv hL hbig p
def exR : List Rw := seen 2 ⟨#[97]⟩ 9 (seen 2 ⟨#[97]⟩ 3 [])
theorem ex50 : clsV (look ⟨#[97]⟩ exR) [4, 20] 50 = 0 := by decide +kernel
theorem ex51 : clsV (look ⟨#[97]⟩ exR) [4, 20] 51 = 1 := by decide +kernel
theorem exNo : clsV (look ⟨#[98]⟩ exR) [] 50 = 0 := by decide +kernel
theorem two_in : ∀ n ∈ ([4, 20] : List Int), inI n := by
  intro n hn
  simp at hn
  rcases hn with rfl | rfl <;> exact ⟨by omega, by omega⟩

set_option maxRecDepth 100000 in
set_option maxHeartbeats 1500000 in
theorem live13_any (w : World) : Calls Try.prog 6 #[] w fun e w' => e = .returned (.bool true) ∧ Below w.heap.size w w' := by
  go_enter Try.func6, Try.ntmps6
  go_upto_region 2 with (go_at_call 7; refine (hnew_any w 2 (by omega)).mono ?_; rintro e W1 ⟨h, t, c, m, rfl, hb1, hH1⟩)
  have hs1 := hb1.size
  go_upto_region 3 with (go_at_call 8; refine (observe_any W1 w.heap.size h t 2 c m [] hH1 hs1 (by omega) ⟨#[97]⟩ 3 (by omega) (by omega) (by simp)).mono ?_; rintro e W2 ⟨rfl, E2, hu2, hH2, hl2, hr2⟩)
  have hW2 := hu2.toBelow hb1 hs1 (fun i hi => (hH1.tab.low i hi).1)
  have hs2 := hW2.size
  have HR2 := Lib.hid hr2
  have HL2 := Lib.hid hl2
  clear hr2 hl2 hu2 hb1 hH1
  go_upto_region 4 with (go_at_call 8; refine (observe_any W2 w.heap.size h t 2 c m E2 hH2 hs2 (by omega) ⟨#[97]⟩ 9 (by omega) (by omega) (by have := HL2.out; simp at this; omega)).mono ?_; rintro e W3 ⟨rfl, E3, hu3, hH3, hl3, hr3⟩)
  have HW3 := Lib.hid (hu3.toBelow hW2 hs2 (fun i hi => (hH2.tab.low i hi).1))
  have HR3 := Lib.hid (show rws E3 = exR from by rw [hr3, HR2.out]; rfl)
  have HH3 := Lib.hid hH3
  clear hr3 hl3 hu3 hW2 hH2 hH3
  have K50 := Lib.hid (show clsV (look ⟨#[97]⟩ (rws E3)) [4, 20] 50 = 0 from by rw [HR3.out]; exact ex50)
  have K51 := Lib.hid (show clsV (look ⟨#[97]⟩ (rws E3)) [4, 20] 51 = 1 from by rw [HR3.out]; exact ex51)
  have KNo := Lib.hid (show clsV (look ⟨#[98]⟩ (rws E3)) [] 50 = 0 from by rw [HR3.out]; exact exNo)
  have hA4 : Below W3.heap.size W3 (W3.alloc (.cells #[.int .i64 4, .int .i64 20] 3)) := (Below.refl _ _).alloc (Nat.le_refl _) _
  have C1 := Lib.hid (class_eq _ w.heap.size h t 2 c m E3 (HH3.out.below hA4) ⟨#[97]⟩ _ [4, 20] (two_ints W3 4 20) two_in (by simp) 50 K50.out)
  go_wp2_with (first
    | (go_at_call 9; refine (class_eq _ w.heap.size h t 2 c m E3 (HH3.out.below hb7) ⟨#[98]⟩ _ [] (.inl ⟨rfl, none, 0, rfl⟩) (by simp) (by simp) 50 KNo.out).mono ?_; rintro e W8 ⟨rfl, hb8⟩)
    | (go_at_call 9; refine (class_eq _ w.heap.size h t 2 c m E3 (HH3.out.below (hb5.alloc hb5.size _)) ⟨#[97]⟩ _ [4, 20] (two_ints W5 4 20) two_in (by simp) 51 K51.out).mono ?_; rintro e W6 ⟨rfl, hb6⟩; have hb7 := bthen' (hb5.alloc hb5.size _) hb6)
    | (go_at_call 9; refine C1.out.mono ?_; rintro e W5 ⟨rfl, hbx⟩; have hb5 := bthen' hA4 hbx))
  go_ret
  exact ⟨rfl, bthen' HW3.out (bthen' hb7 hb8)⟩

end Go.Proofs.Yteifjlhkfmoljaa
