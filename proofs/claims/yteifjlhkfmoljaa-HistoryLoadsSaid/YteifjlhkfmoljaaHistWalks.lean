/- The contracts of hist's functions and of the document's answer: each returns what the plain mathematics says, and turns nothing that was there. -/
import Derived.Test.YteifjlhkfmoljaaRows
import Derived.Test.YteifjlhkfmoljaaHistLaw
import Derived.Test.YteifjlhkfmoljaaShelf
import Derived.WalkKit
import Derived.WalkLawsBesides
import Derived.WalkSpells
import Derived.Lib.Hide
import Derived.Outline
import Derived.Deep.MidRow
set_option linter.unusedVariables false
namespace Go.Proofs.Yteifjlhkfmoljaa
open Go.RowKit
open HistLaw

theorem ret_int {k : IntKind} {a b : Int} (h : a = b) : Ending.returned (.int k a) = .returned (.int k b) := by rw [h]
theorem ret_bool {a b : Bool} (h : a = b) : Ending.returned (.bool a) = .returned (.bool b) := by rw [h]

/-- A histogram's cells. -/
def hcells (h : List Int) : Array Value := (h.map (Value.int .i64)).toArray
theorem hcells_size (h : List Int) : (hcells h).size = h.length := by simp [hcells]
theorem hcells_get (h : List Int) (k : Nat) (hk : k < h.length) : (hcells h)[k]? = some (.int .i64 (nth h k)) := by simp [hcells, nth, hk]
theorem hcells_one (h : List Int) : (hcells h).all (·.oneCell') = true := by
  simp [hcells, Value.oneCell']
theorem hcells_set (h : List Int) (k : Nat) (x : Int) : (hcells h).setIfInBounds k (.int .i64 x) = hcells (h.set k x) := by
  simp [hcells, List.map_set]

theorem histU : Try.prog.underlying 49 = some (.array 16 3) := by kernel_rfl
theorem histI : (Try.prog.info? 49).map (·.size) = some 16 := by kernel_rfl
theorem histRow {h : List Int} (hl : h.length = 16) : (Try.prog.info? 49).map (·.size) = some (hcells h).size := by rw [hcells_size, hl]; exact histI

/-- Reading a histogram's bucket out of its value. -/
theorem run_hindex (h : List Int) (hl : h.length = 16) (k : Nat) (hk : k < 16) (w : World) :
    (Instr.index 49 (.agg (hcells h)) (.int .i64 (k : Int))).run Try.prog w = .ok (.int .i64 (nth h k)) w := by
  have hg := hcells_get h k (by omega)
  have hp : (part 3 (hcells h) k).run Try.prog w = .ok (.int .i64 (nth h k)) w := by
    have ha : (isAgg 3).run Try.prog w = .ok false w := by kernel_rfl
    simp [part, ha, hg]
  have hs : (sizeOf 3).run Try.prog w = .ok 1 w := by kernel_rfl
  simp [Instr.index, asIntOf, run_underlying histU, hs, hp, hk]


/-- The histogram's box in a world that has it as its last block. -/
theorem load_box (h : List Int) (hl : h.length = 16) (w : World) : (w.alloc (.cells (hcells h) 49)).heap[w.heap.size]? = some (.cells (hcells h) 49 (0, 0)) := heap_alloc_new w _

theorem box_cell (h : List Int) (k : Nat) (hk : k < h.length) (w : World) : (w.alloc (.cells (hcells h) 49)).cell? ⟨w.heap.size, k, none⟩ = some (.int .i64 (nth h k)) := by
  rw [World.cell?_alloc_new, hcells_get h k hk]

set_option maxHeartbeats 400000 in
theorem total_any (h : List Int) (hl : h.length = 16) (w : World) :
    Calls Try.prog 38 #[.agg (hcells h)] w fun e w' => e = .returned (.int .i64 (tw h)) ∧ Below w.heap.size w w' := by
  have hix := run_hindex h hl
  go_enter Try.func38, Try.ntmps38
  go_wp2_with (refine wpList_load_row rfl 49 _ rfl w.heap.size rfl 49 (hcells h) (0, 0) _ (load_box h hl w) histU rfl (histRow hl) ?_)
  go_loop [3, 5, 7] (fun s _ i => ∃ k : Nat, k ≤ 16 ∧ i = .int .i64 k ∧ s = .int .i64 (tw (h.take k))) (fun _ _ i => 16 - (intOf i).toNat)
  case atStart => exact ⟨0, by omega, rfl, rfl⟩
  case round =>
    obtain ⟨k, hk, rfl, rfl⟩ := hrel
    by_cases hlt : k < 16
    · have hk1 := hix k hlt
      have HT := Lib.hid (tw_take h k (by omega))
      clear hix
      go_wp2
      go_round
      case rel => exact ⟨k + 1, by omega, by go_num, by rw [HT.out, IntWalk.i64_left]⟩
      case measure => simp [intOf]; omega
    · clear hix
      go_wp2
      go_ret
      exact ⟨ret_int (by rw [List.take_of_length_le (by omega)]), (Below.refl _ _).alloc (Nat.le_refl _) _⟩

set_option maxHeartbeats 400000 in
theorem refTotal_any (h : List Int) (hl : h.length = 16) (w : World) :
    Calls Try.prog 32 #[.agg (hcells h)] w fun e w' => e = .returned (.int .i64 (tw h)) ∧ Below w.heap.size w w' := by
  have hc := fun k hk => box_cell h k hk w
  go_enter Try.func32, Try.ntmps32
  go_wp2
  go_loop [3, 4] (fun s i => ∃ k : Nat, k ≤ 16 ∧ i = .int .i64 k ∧ s = .int .i64 (tw (h.take k))) (fun _ i => 16 - (intOf i).toNat)
  case atStart => exact ⟨0, by omega, rfl, rfl⟩
  case round =>
    obtain ⟨k, hk, rfl, rfl⟩ := hrel
    by_cases hlt : k < 16
    · have hk1 := hc k (by omega)
      have HT := Lib.hid (tw_take h k (by omega))
      clear hc
      go_wp2
      go_round
      case rel => exact ⟨k + 1, by omega, by go_num, by rw [HT.out, IntWalk.i64_left]⟩
      case measure => simp [intOf]; omega
    · clear hc
      go_wp2
      go_ret
      exact ⟨ret_int (by rw [List.take_of_length_le (by omega)]), (Below.refl _ _).alloc (Nat.le_refl _) _⟩

theorem all_take_snoc {h : List Int} {k : Nat} (hk : k < h.length) (ha : (h.take k).all inR = true) (hx : inR (nth h k) = true) : (h.take (k + 1)).all inR = true := by
  rw [take_snoc h k hk, List.all_append, ha]; simp [hx]

theorem right_no {h : List Int} {k : Nat} (hk : k < h.length) (hx : ¬ inR (nth h k) = true) : rightB h = false := by
  have : h.all inR = false := by
    rw [List.all_eq_false]
    exact ⟨h[k], List.getElem_mem hk, by rw [nth_eq h k hk] at hx; simpa using hx⟩
  simp [rightB, this]

set_option maxHeartbeats 400000 in
theorem right_any (h : List Int) (hl : h.length = 16) (w : World) :
    Calls Try.prog 30 #[.agg (hcells h)] w fun e w' => e = .returned (.bool (rightB h)) ∧ Below w.heap.size w w' := by
  have hix := run_hindex h hl
  go_enter Try.func30, Try.ntmps30
  go_wp2_with (refine wpList_load_row rfl 49 _ rfl w.heap.size rfl 49 (hcells h) (0, 0) _ (load_box h hl w) histU rfl (histRow hl) ?_)
  go_loop [4, 6] (fun _ i => ∃ k : Nat, k ≤ 16 ∧ i = .int .i64 k ∧ Hid ((h.take k).all inR = true)) (fun _ i => 16 - (intOf i).toNat)
  case atStart => exact ⟨0, by omega, rfl, Lib.hid (by simp)⟩
  case round =>
    obtain ⟨k, hk, rfl, ha⟩ := hrel
    by_cases hlt : k < 16
    · have hk1 := hix k hlt
      clear hix
      by_cases h0 : nth h k < 0
      · have HR := Lib.hid (right_no (h := h) (k := k) (by omega) (by simp [inR]; omega))
        go_wp2
        go_ret
        exact ⟨ret_bool HR.out.symm, (Below.refl _ _).alloc (Nat.le_refl _) _⟩
      by_cases h1 : 64 < nth h k
      · have HR := Lib.hid (right_no (h := h) (k := k) (by omega) (by simp [inR]; omega))
        go_wp2
        go_ret
        exact ⟨ret_bool HR.out.symm, (Below.refl _ _).alloc (Nat.le_refl _) _⟩
      have HA := Lib.hid (all_take_snoc (h := h) (k := k) (by omega) ha.out (by simp [inR]; omega))
      go_wp2
      go_round
      case rel => exact ⟨k + 1, by omega, by go_num, HA⟩
      case measure => simp [intOf]; omega
    · have hR : rightB h = decide (tw h ≤ 64) := by
        have := ha.out
        rw [List.take_of_length_le (by omega)] at this
        simp [rightB, this]
      have HR := Lib.hid hR
      clear hix hR
      go_wp2_with (first | (refine wpList_load_row rfl 49 _ rfl w.heap.size rfl 49 (hcells h) (0, 0) _ (load_box h hl w) histU rfl (histRow hl) ?_) | (go_at_call 38; refine (total_any h hl _).mono ?_; rintro e w1 ⟨rfl, hb1⟩))
      go_ret
      exact ⟨ret_bool HR.out.symm, (((Below.refl _ _).alloc (Nat.le_refl _) _).trans (hb1.mono (by simp)))⟩

set_option maxHeartbeats 400000 in
theorem refRight_any (h : List Int) (hl : h.length = 16) (w : World) :
    Calls Try.prog 31 #[.agg (hcells h)] w fun e w' => e = .returned (.bool (rightB h)) ∧ Below w.heap.size w w' := by
  have hc := fun k hk => box_cell h k hk w
  go_enter Try.func31, Try.ntmps31
  go_wp2
  go_loop [3] (fun i => ∃ k : Nat, k ≤ 16 ∧ i = .int .i64 k ∧ Hid ((h.take k).all inR = true)) (fun i => 16 - (intOf i).toNat)
  case atStart => exact ⟨0, by omega, rfl, Lib.hid (by simp)⟩
  case round =>
    obtain ⟨k, hk, rfl, ha⟩ := hrel
    by_cases hlt : k < 16
    · have hk1 := hc k (by omega)
      clear hc
      by_cases h0 : nth h k < 0
      · have HR := Lib.hid (right_no (h := h) (k := k) (by omega) (by simp [inR]; omega))
        go_wp2
        go_ret
        exact ⟨ret_bool HR.out.symm, (Below.refl _ _).alloc (Nat.le_refl _) _⟩
      by_cases h1 : 64 < nth h k
      · have HR := Lib.hid (right_no (h := h) (k := k) (by omega) (by simp [inR]; omega))
        go_wp2
        go_ret
        exact ⟨ret_bool HR.out.symm, (Below.refl _ _).alloc (Nat.le_refl _) _⟩
      have HA := Lib.hid (all_take_snoc (h := h) (k := k) (by omega) ha.out (by simp [inR]; omega))
      go_wp2
      go_round
      case rel => exact ⟨k + 1, by omega, by go_num, HA⟩
      case measure => simp [intOf]; omega
    · have hR : rightB h = decide (tw h ≤ 64) := by
        have := ha.out
        rw [List.take_of_length_le (by omega)] at this
        simp [rightB, this]
      have HR := Lib.hid hR
      clear hc hR
      go_wp2_with (first | (refine wpList_load_row rfl 49 _ rfl w.heap.size rfl 49 (hcells h) (0, 0) _ (load_box h hl w) histU rfl (histRow hl) ?_) | (go_at_call 32; refine (refTotal_any h hl _).mono ?_; rintro e w1 ⟨rfl, hb1⟩))
      go_ret
      exact ⟨ret_bool HR.out.symm, (((Below.refl _ _).alloc (Nat.le_refl _) _).trans (hb1.mono (by simp)))⟩

theorem bucket_any (v : Nat) (w : World) (hv : v < 18446744073709551616) :
    Calls Try.prog 39 #[.int .u64 v] w fun e w' => e = .returned (.int .i64 (buck v)) ∧ w = w' := by
  have hb := Lib.hid (show ((Lib.bitLen (v : Int).toNat : Nat) : Int) = (Lib.bitLen v : Nat) by simp)
  have hb2 : (0 : Int) ≤ (Lib.bitLen (v : Int).toNat : Nat) := by omega
  go_enter Try.func39, Try.ntmps39
  go_wp2_with (go_at_call 49; refine (Try.bits_Len64 _ _ (by omega) (by omega)).mono ?_; rintro e w' ⟨rfl, hw'⟩; subst hw')
  all_goals
    go_ret
    refine ⟨ret_int ?_, rfl⟩
    unfold buck
    omega

set_option maxHeartbeats 400000 in
theorem refBucket_any (v : Nat) (w : World) (hv : v < 18446744073709551616) :
    Calls Try.prog 42 #[.int .u64 v] w fun e w' => e = .returned (.int .i64 (buck v)) ∧ w = w' := by
  go_enter Try.func42, Try.ntmps42
  go_wp2
  go_loop [0, 3] (fun x b => ∃ u k : Nat, k ≤ 15 ∧ u ≤ v ∧ x = .int .u64 u ∧ b = .int .i64 k ∧ Hid (buck v = min (k + Lib.bitLen u) 15)) (fun _ b => 15 - (intOf b).toNat)
  case atStart => exact ⟨v, 0, by omega, by omega, rfl, rfl, Lib.hid (by simp [buck])⟩
  case round =>
    obtain ⟨u, k, hk, hu, rfl, rfl, hb⟩ := hrel
    by_cases h0 : u = 0
    · subst h0
      go_wp2
      go_ret
      refine ⟨ret_int ?_, rfl⟩
      rw [hb.out, show Lib.bitLen 0 = 0 from by decide]; omega
    · have hpos : (0 : Int) < (u : Int) := by omega
      by_cases hlt : k < 15
      · have HS := Lib.hid (bitLen_step u (by omega))
        go_wp2
        go_round
        case rel => exact ⟨u / 2, k + 1, by omega, by omega, by go_num, by go_num, Lib.hid (by rw [hb.out, HS.out, if_neg h0]; congr 1; omega)⟩
        case measure => simp [intOf]; omega
      · go_wp2
        go_ret
        refine ⟨ret_int ?_, rfl⟩
        rw [hb.out]; omega
end Go.Proofs.Yteifjlhkfmoljaa
