/- The contracts of hist's functions at integers. -/
import Derived.Test.YteifjlhkfmoljaaHistWalks3
import Derived.Test.YteifjlhkfmoljaaBase
import Derived.Deep.WholeRow
import Derived.Test.YteifjlhkfmoljaaHistEq
import Derived.OpenShut
set_option linter.unusedVariables false
namespace Go.Proofs.Yteifjlhkfmoljaa
open Go.RowKit
open HistLaw

theorem bucket_at (x : Int) (w : World) (h0 : 0 ≤ x) (h1 : x ≤ 18446744073709551615) :
    Calls Try.prog 39 #[.int .u64 x] w fun e w' => e = .returned (.int .i64 (buck x.toNat)) ∧ w = w' := by
  obtain ⟨n, rfl⟩ := Int.eq_ofNat_of_zero_le h0
  rw [Int.toNat_natCast]
  exact bucket_any n w (by omega)

theorem refBucket_at (x : Int) (w : World) (h0 : 0 ≤ x) (h1 : x ≤ 18446744073709551615) :
    Calls Try.prog 42 #[.int .u64 x] w fun e w' => e = .returned (.int .i64 (buck x.toNat)) ∧ w = w' := by
  obtain ⟨n, rfl⟩ := Int.eq_ofNat_of_zero_le h0
  rw [Int.toNat_natCast]
  exact refBucket_any n w (by omega)

theorem add_at (h : List Int) (hl : h.length = 16) (x : Int) (w : World) (h0 : 0 ≤ x) (h1 : x ≤ 18446744073709551615) :
    Calls Try.prog 18 #[.agg (hcells h), .int .u64 x] w fun e w' => e = .returned (.agg (hcells (addH h x.toNat))) ∧ Below w.heap.size w w' := by
  obtain ⟨n, rfl⟩ := Int.eq_ofNat_of_zero_le h0
  rw [Int.toNat_natCast]
  exact add_any h hl n (by omega) w

theorem refAdd_at (h : List Int) (hl : h.length = 16) (x : Int) (w : World) (h0 : 0 ≤ x) (h1 : x ≤ 18446744073709551615) :
    Calls Try.prog 23 #[.agg (hcells h), .int .u64 x] w fun e w' => e = .returned (.agg (hcells (addH h x.toNat))) ∧ Below w.heap.size w w' := by
  obtain ⟨n, rfl⟩ := Int.eq_ofNat_of_zero_le h0
  rw [Int.toNat_natCast]
  exact refAdd_any h hl n (by omega) w

end Go.Proofs.Yteifjlhkfmoljaa
