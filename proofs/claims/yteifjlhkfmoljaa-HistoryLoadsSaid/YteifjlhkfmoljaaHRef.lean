/- The document's table of histograms: Hist. -/
import Derived.Test.YteifjlhkfmoljaaHRow
set_option linter.unusedVariables false
namespace Go.Proofs.Yteifjlhkfmoljaa
open Go.RowKit

theorem look_found {k : ByteArray} {L : List Rw} {j : Nat} {p : Rw} (hp : L[j]? = some p) (hk : p.1 = k) (hb : ∀ i q, i < j → L[i]? = some q → q.1 ≠ k) : look k L = p.2 := by
  induction L generalizing j with
  | nil => simp at hp
  | cons y r ih =>
    unfold look
    cases j with
    | zero =>
      simp at hp
      subst hp
      rw [List.find?_cons_of_pos (by simpa using hk)]
      rfl
    | succ j =>
      have hy : y.1 ≠ k := hb 0 y (by omega) rfl
      rw [List.find?_cons_of_neg (by simpa using hy)]
      exact ih (by simpa using hp) (fun i q hi hq => hb (i + 1) q (by omega) (by simpa using hq))
theorem look_gone {k : ByteArray} {L : List Rw} (hb : ∀ i q, i < L.length → L[i]? = some q → q.1 ≠ k) : look k L = noH :=
  look_none (fun p hp => by obtain ⟨i, hi⟩ := List.mem_iff_getElem?.1 hp; exact hb i p (List.getElem?_eq_some_iff.1 hi).1 hi)
theorem bytes_inj' {a b : ByteArray} : a.toList = b.toList ↔ a = b := bytesInj a b
def tg (room : Int) (lv : Value) : Value := .agg #[.int .i64 room, lv]

set_option maxRecDepth 100000 in
set_option maxHeartbeats 1000000 in
theorem rhist_any (w : World) (room : Int) (lv : Value) (L : List Rw) (k : ByteArray) (hv : Reads rowR w lv L) (hbig : L.length ≤ 100000) :
    Calls Try.prog 24 #[tg room lv, .string k] w fun e w' => e = .returned (hV (look k L)) ∧ Below w.heap.size w w' := by
  obtain ⟨al, cl, rfl⟩ := hv.form
  obtain ⟨hb0, hz, hb2, -⟩ := two_boxes (Below.refl _ ((w.alloc (.cells #[.int .i64 room, .slice al L.length cl] 39)).alloc (.cells (vh noH).toArray 49)))
  obtain ⟨W1, hW1⟩ : ∃ W1, W1 = (w.alloc (.cells #[.int .i64 room, .slice al L.length cl] 39)).alloc (.cells (vh noH).toArray 49) := ⟨_, rfl⟩
  rw [← hW1] at hb0 hz hb2
  have n1 : W1.cell? ⟨w.heap.size, 1, none⟩ = some (.slice al L.length cl) := by rw [cell_of_row W1 w.heap.size 1 _ _ _ hb0]; rfl
  have HV := Lib.hid (hv.below hb2)
  clear hv
  go_enter Try.func24, Try.ntmps24
  go_upto_region 1 with fail
  show Code.wp _ _ _ _ ((w.alloc (.cells #[.int .i64 room, .slice al L.length cl] 39)).alloc (.cells (vh noH).toArray 49))
  rw [← hW1]
  clear hW1
  go_wp2_with fail
  go_loopw [5] (fun i wr => W1 = wr ∧ ∃ j : Nat, j ≤ L.length ∧ i = .int .i64 j ∧ ∀ i q, i < j → L[i]? = some q → q.1 ≠ k) (fun i _ => L.length - (intOf i).toNat)
  case atStart => exact ⟨rfl, 0, by omega, rfl, by intro i q h; omega⟩
  case round =>
    obtain ⟨rfl, j, hj, rfl, hall⟩ := hrel
    have HA := Lib.hid hall
    clear hall
    by_cases hlt : j < L.length
    · obtain ⟨p, hp⟩ : ∃ p, L[j]? = some p := ⟨_, List.getElem?_eq_getElem hlt⟩
      obtain ⟨b, off, rfl, hr⟩ := HV.out.at hp
      obtain ⟨r0, r1⟩ := row_parts hr
      replace r0 : W1.cell? ⟨b, off + j * 17, none⟩ = some (.string p.1) := r0
      have R1 : Hid (W1.rangeAt b (off + j * 17 + 1) (vh p.2)) := Lib.hid r1
      have HP := Lib.hid hp
      clear hp hr r1
      by_cases hk : p.1 = k
      · have hkb : (p.1.toList == k.toList) = true := by rw [hk]; simp
        have HF := Lib.hid (look_found HP.out hk HA.out)
        clear hk
        go_wp2_with (first
          | (refine wpList_load_mid rfl 49 _ rfl b (off + j * 17 + 1) rfl (vh p.2) _ R1.out histU rfl (vhRow p.2) ?_)
          | (refine wpList_store_row rfl 49 _ _ rfl (w.heap.size + 1) (vh p.2).toArray rfl rfl 49 (vh noH).toArray hz (vhRow' p.2) (by simp only [List.size_toArray, vh_length]) (vhOne p.2) ?_))
        rw [HF.out]
        exact bodyPost_ret (v := hV p.2) (results_cell_row rfl _ _ (w.heap.size + 1) 49 _ (0, 0) _ rfl (setRow_heap _ _ _ _ _ _ hz) histU rfl (vhRow' p.2)) rfl ⟨rfl, below_row hb2 (by omega) _⟩
      · have hkb : (p.1.toList == k.toList) = false := by rw [beq_eq_false_iff_ne, Ne, bytes_inj']; exact hk
        have HK := Lib.hid hk
        clear hk
        go_wp2_with fail
        go_roundw
        case rel => exact ⟨trivial, j + 1, by omega, by go_num, fun i q hi hq => by
          by_cases hij : i = j
          · subst hij
            rw [HP.out] at hq
            cases hq
            exact HK.out
          · exact HA.out i q (by omega) hq⟩
        case measure => simp [intOf]; omega
    · obtain rfl : j = L.length := by omega
      have HF := Lib.hid (look_gone HA.out)
      go_wp2_with (first
        | (refine wpList_store_row rfl 49 _ _ rfl (w.heap.size + 1) (vh noH).toArray rfl rfl 49 (vh noH).toArray hz (vhRow' noH) (by simp only [List.size_toArray, vh_length]) (vhOne noH) ?_))
      exact bodyPost_ret (v := hV noH) (results_cell_row rfl _ _ (w.heap.size + 1) 49 _ (0, 0) _ rfl (setRow_heap _ _ _ _ _ _ hz) histU rfl (vhRow' noH)) rfl ⟨by rw [HF.out], below_row hb2 (by omega) _⟩

end Go.Proofs.Yteifjlhkfmoljaa
