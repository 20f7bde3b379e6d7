/- The document's list is the table's the other way about. -/
import Derived.Test.YteifjlhkfmoljaaHRObs
set_option linter.unusedVariables false
namespace Go.Proofs.Yteifjlhkfmoljaa
open Go.RowKit

theorem look_reverse {R : List Rw} (hn : (R.map Prod.fst).Nodup) (k : ByteArray) : look k R.reverse = look k R := by
  by_cases h : ∃ p ∈ R, p.1 = k
  · obtain ⟨p, hp, rfl⟩ := h
    obtain ⟨i, hi⟩ := List.mem_iff_getElem?.1 hp
    obtain ⟨j, hj⟩ := List.mem_iff_getElem?.1 (List.mem_reverse.2 hp)
    rw [look_at hn hi, look_at (by rw [List.map_reverse]; exact (List.reverse_perm _).nodup_iff.2 hn) hj]
  · rw [look_none (fun p hp e => h ⟨p, hp, e⟩), look_none (fun p hp e => h ⟨p, List.mem_reverse.1 hp, e⟩)]
theorem robs_reverse {R : List Rw} {room : Int} (hn : (R.map Prod.fst).Nodup) (hlen : (R.length : Int) ≤ room) (k : ByteArray) (x : Int) :
    robs room k x R.reverse = (seen room.toNat k x R).reverse := by
  unfold robs seen ahead
  rw [look_reverse hn, show oth k R.reverse = (oth k R).reverse from by unfold oth; rw [List.filter_reverse]]
  generalize addHs (look k R) x = v
  have hl := oth_len k R
  rw [show (oth k R).reverse ++ [(k, v)] = ((k, v) :: oth k R).reverse from by rw [List.reverse_cons]]
  by_cases h : room < ((((k, v) :: oth k R).reverse).length : Int)
  · rw [if_pos h, List.reverse_take]
    congr 1
    rw [List.length_reverse] at h
    simp at h ⊢
    omega
  · rw [if_neg h, List.take_of_length_le]
    rw [List.length_reverse] at h
    omega

end Go.Proofs.Yteifjlhkfmoljaa
