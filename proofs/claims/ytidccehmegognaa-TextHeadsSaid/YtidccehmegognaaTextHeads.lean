/- The walk of the statement on heads. -/
import Derived.Test.YtidccehmegognaaTextLaws
set_option linter.unusedVariables false
namespace Go.Proofs.Ytidccehmegognaa
open Go.RowKit

theorem take_data (s : ByteArray) (b : Nat) : (s.extract 0 b).data.toList = s.data.toList.take b := by
  rw [ByteArray.data_extract, Array.toList_extract]
  rfl
theorem drop_data (s : ByteArray) (b : Nat) : (s.extract b s.size).data.toList = s.data.toList.drop b := by
  rw [ByteArray.data_extract, Array.toList_extract]
  have h2 : s.data.toList.length = s.size := rfl
  rw [List.extract_eq_take_drop]
  rw [List.take_of_length_le]
  rw [List.length_drop, h2]; omega

set_option maxRecDepth 100000 in
set_option maxHeartbeats 4000000 in
theorem textHeads_of (s : ByteArray) (hs : s.size ≤ 9223372036854775807) (n : Int) (w : World) : Calls Try.prog 6 #[.string s, .int .i64 n] w fun e w' => e = .returned (.bool true) ∧ Below w.heap.size w w' := by
  by_cases hbig : 1000 < s.size
  · go_enter Try.func6, Try.ntmps6
    go_wp2_with (go_at_call 9; refine (live03_any _).mono ?_; rintro e W2 ⟨rfl, hb2⟩)
    go_ret
    exact ⟨rfl, hb2⟩
  · obtain ⟨h, hh⟩ : ∃ h : ByteArray, h = s.extract 0 (bnd n.toNat s.data.toList) := ⟨_, rfl⟩
    have hB := bnd_le n.toNat s.data.toList
    have h2 : s.data.toList.length = s.size := rfl
    rw [h2] at hB
    have hsz : h.size = bnd n.toNat s.data.toList := by rw [hh, ByteArray.size_extract]; omega
    obtain ⟨t, ht⟩ : ∃ t : ByteArray, t = s.extract h.size s.size := ⟨_, rfl⟩
    obtain ⟨c, hc⟩ : ∃ c : Nat, c = (runesL s.data.toList).length := ⟨_, rfl⟩
    obtain ⟨c1, hc1⟩ : ∃ c1 : Nat, c1 = (runesL h.data.toList).length := ⟨_, rfl⟩
    obtain ⟨c2, hc2⟩ : ∃ c2 : Nat, c2 = (runesL t.data.toList).length := ⟨_, rfl⟩
    have e1 : c1 = min n.toNat c := by rw [hc1, hc, hh, take_data, runes_take, List.length_take]
    have e2 : c2 = c - n.toNat := by rw [hc2, hc, ht, hsz, drop_data, runes_drop, List.length_drop]
    have hcl : c ≤ s.size := by rw [hc]; have := runesL_le _ s.data.toList (Nat.le_refl _); rw [h2] at this; exact this
    have kHead : ∀ w, Calls Try.prog 16 #[.string s, .int .i64 n] w fun e w' => e = .returned (.string h) ∧ Below w.heap.size w w' := fun w => by rw [hh]; exact head_any w s hs n
    have kRef : ∀ w, Calls Try.prog 17 #[.string s, .int .i64 n] w fun e w' => e = .returned (.string h) ∧ Below w.heap.size w w' := fun w => by rw [hh]; exact refHead_any w s hs n
    have kc : ∀ w, Calls Try.prog 14 #[.string s] w fun e w' => e = .returned (.int .i64 c) ∧ Below w.heap.size w w' := fun w => by rw [hc]; exact count_any w s hs
    have kc1 : ∀ w, Calls Try.prog 14 #[.string h] w fun e w' => e = .returned (.int .i64 c1) ∧ Below w.heap.size w w' := fun w => by rw [hc1]; exact count_any w h (by omega)
    have kc2 : ∀ w, Calls Try.prog 14 #[.string t] w fun e w' => e = .returned (.int .i64 c2) ∧ Below w.heap.size w w' := fun w => by rw [hc2]; exact count_any w t (by rw [ht, ByteArray.size_extract]; omega)
    have KH := Lib.hid kHead
    have KR := Lib.hid kRef
    have KC := Lib.hid kc
    have KC1 := Lib.hid kc1
    have KC2 := Lib.hid kc2
    have x1 : s.extract 0 h.size = h := by rw [hsz]; exact hh.symm
    have x2 : s.extract h.size s.size = t := ht.symm
    have hle : h.size ≤ s.size := by omega
    have e3 : ((c1 : Int) == max 0 (min n (c : Int))) = true := by rw [beq_iff_eq]; omega
    have e4 : ((c1 : Int) + (c2 : Int) == (c : Int)) = true := by rw [beq_iff_eq]; omega
    have hc1b : c1 ≤ 1000 := by omega
    have hc2b : c2 ≤ 1000 := by omega
    have e5 : IntKind.i64.wrap ((c1 : Int) + (c2 : Int)) = (c1 : Int) + (c2 : Int) := IntWalk.i64_in _ (by omega)
    have hlei : (h.size : Int) ≤ (s.size : Int) := by omega
    have hlei0 : (0 : Int) ≤ (h.size : Int) := by omega
    clear hh ht hc hc1 hc2 hsz hB h2 kHead kRef kc kc1 kc2 e1 e2
    go_enter Try.func6, Try.ntmps6
    go_wp2_with (go_at_call 16; refine (KH.out _).mono ?_; rintro e W1 ⟨rfl, hb1⟩)
    refine wp_region_later (by kernel_rfl) (by kernel_rfl) (Below.refl _ _) ?_
    repeat (first
      | go_big_quiet_skip
      | (go_big_quiet_want; first
        | (go_big_quiet_op; first | go_big_quiet_on | go_big_quiet_call (first
          | (go_at_call 17; exact Calls.later (KR.out _))
          | (go_at_call 14; first | (with_reducible exact Calls.later (KC.out _)) | (with_reducible exact Calls.later (KC1.out _)) | (with_reducible exact Calls.later (KC2.out _)))
          | (go_at_call 9; exact Calls.later (live03_any _))))))
    refine wpQuiet_nil ?_
    rintro ⟨W3, hb3⟩
    dsimp only
    clear x1 x2 e3 e4 e5
    go_wp2_with fail
    go_ret
    exact ⟨rfl, bthen' hb1 hb3⟩

end Go.Proofs.Ytidccehmegognaa
