/- The reference's Fold; the page's examples. -/
import Derived.Test.YtidccehmegognaaTextFold
set_option linter.unusedVariables false
namespace Go.Proofs.Ytidccehmegognaa
open Go.RowKit

theorem u8 (a : Int) (b : Nat) (h : a.toNat = b) : UInt8.ofNat b = a.toNat.toUInt8 := by rw [h]
theorem encode_list (r : Nat) (h : okRune r) : (Utf8.encode (r : Int)).data.toList = Lib.encodeRune (r : Int) := by
  have hv : Utf8.valid (r : Int) = true := by unfold Utf8.valid; unfold okRune at h; simp; omega
  unfold Utf8.encode
  simp only [hv, if_true, Int.toNat_natCast]
  unfold Lib.encodeRune
  unfold okRune at h
  by_cases c1 : r < 128
  · rw [Lib.encodeRuneZ_one (by omega) (by omega), if_pos c1]
    have e1 := u8 (r : Int) r (by omega)
    simp only [List.map_cons, List.map_nil, ← e1]
  · rw [if_neg c1]
    by_cases c2 : r < 2048
    · rw [Lib.encodeRuneZ_two (by omega) (by omega), if_pos c2]
      have e1 := u8 (192 + (r : Int) / 64) (192 + r / 64) (by omega)
      have e2 := u8 (128 + (r : Int) % 64) (128 + r % 64) (by omega)
      simp only [List.map_cons, List.map_nil, ← e1, ← e2]
    · rw [if_neg c2]
      by_cases c3 : r < 65536
      · rw [Lib.encodeRuneZ_three (by omega), if_pos c3]
        have e1 := u8 (224 + (r : Int) / 4096) (224 + r / 4096) (by omega)
        have e2 := u8 (128 + (r : Int) / 64 % 64) (128 + r / 64 % 64) (by omega)
        have e3 := u8 (128 + (r : Int) % 64) (128 + r % 64) (by omega)
        simp only [List.map_cons, List.map_nil, ← e1, ← e2, ← e3]
      · rw [Lib.encodeRuneZ_four (by omega) (by omega), if_neg c3]
        have e1 := u8 (240 + (r : Int) / 262144) (240 + r / 262144) (by omega)
        have e2 := u8 (128 + (r : Int) / 4096 % 64) (128 + r / 4096 % 64) (by omega)
        have e3 := u8 (128 + (r : Int) / 64 % 64) (128 + r / 64 % 64) (by omega)
        have e4 := u8 (128 + (r : Int) % 64) (128 + r % 64) (by omega)
        simp only [List.map_cons, List.map_nil, ← e1, ← e2, ← e3, ← e4]

theorem conv_one (w : World) (r : Int) : (convert 28 9 (.slice (some ⟨w.heap.size, 0, none⟩) 1 1)).run Try.prog (w.alloc (.cells #[.int .i32 r] 21)) = .ok (.string (runesBytes [r])) (w.alloc (.cells #[.int .i32 r] 21)) := by
  have h := run_convert_runes (P := Try.prog) (w.alloc (.cells #[.int .i32 r] 21)) 28 9 21 ⟨w.heap.size, 0, none⟩ 1 1 [r] (Nat.le_refl _) Try.underlying28 Try.underlying21 Try.underlying9 (fun j hj => by
    have h0 : j = 0 := by simp at hj; exact hj
    subst h0
    simp [Addr.add])
  rw [h]
  rfl
theorem rb_one (n : Int) : runesBytes [n] = Utf8.encode n := by
  unfold runesBytes
  simp only [List.foldl_cons, List.foldl_nil]
  generalize Utf8.encode n = E
  simp
theorem runesBytes_one (A : ByteArray) (r : Nat) (h : okRune r) : (A ++ runesBytes [(r : Int)]).data.toList = A.data.toList ++ Lib.encodeRune (r : Int) := by
  rw [← encode_list r h, rb_one]
  generalize Utf8.encode (r : Int) = E
  simp
theorem bytes_of (A : ByteArray) (l : List UInt8) (h : A.data.toList = l) : A = ⟨l.toArray⟩ := by subst h; cases A; simp
theorem ret_string {a b : ByteArray} (h : a = b) : Ending.returned (.string a) = .returned (.string b) := by rw [h]

set_option maxRecDepth 1000000 in
set_option maxHeartbeats 1000000 in
theorem refFold_any (w : World) (s : ByteArray) (hs : s.size ≤ 1000000) : Calls Try.prog 13 #[.string s] w fun e w' => e = .returned (.string ⟨(foldL s.data.toList).toArray⟩) ∧ Below w.heap.size w w' := by
  have hle := runesL_le _ s.data.toList (Nat.le_refl _)
  have h2 : s.data.toList.length = s.size := rfl
  rw [h2] at hle
  clear h2
  go_enter Try.func13, Try.ntmps13
  go_wp2_with (go_at_call 15; refine (runes_any _ s (by omega)).mono ?_; rintro e W1 ⟨v, rfl, hb1, hO1⟩; obtain ⟨av, capv, rfl⟩ := hO1.form)
  go_loopw [4, 5] (fun o i wr => ∃ (k : Nat) (A : ByteArray), k ≤ (runesL s.data.toList).length ∧ o = .string A ∧ i = .int .i64 k ∧ Below w.heap.size w wr ∧ Below W1.heap.size W1 wr ∧ A.data.toList = ((runesL s.data.toList).take k).flatMap (fun r => Lib.encodeRune ((foldr1 r : Nat) : Int)) ∧ A.size ≤ 4 * k) (fun _ i _ => (runesL s.data.toList).length - (intOf i).toNat)
  case atStart => exact ⟨0, ⟨#[]⟩, by omega, rfl, rfl, hb1, Below.refl _ _, by simp, by simp [ByteArray.size]⟩
  case round =>
    obtain ⟨k, A, hk, rfl, rfl, hW, hW1, hA, hAs⟩ := hrel
    have HA := Lib.hid hA
    clear hA
    by_cases hlt : k < (runesL s.data.toList).length
    · obtain ⟨r, hr⟩ : ∃ r, (runesL s.data.toList)[k]? = some r := ⟨_, List.getElem?_eq_getElem hlt⟩
      have hok := runesL_ok _ s.data.toList (Nat.le_refl _) r (List.mem_of_getElem? hr)
      have hok2 : r ≤ 1114111 := by unfold okRune at hok; omega
      obtain ⟨b, rfl, hc⟩ := (hO1.below hW1).cell hr
      have HR := Lib.hid (show ((runesL s.data.toList).take (k + 1)).flatMap (fun r => Lib.encodeRune ((foldr1 r : Nat) : Int)) = ((runesL s.data.toList).take k).flatMap (fun r => Lib.encodeRune ((foldr1 r : Nat) : Int)) ++ Lib.encodeRune ((foldr1 r : Nat) : Int) from by
        rw [List.take_add_one, hr]; simp)
      have HO := Lib.hid hO1
      clear hr hO1
      have hblt : b < wr.heap.size := World.block_lt_of_cell? _ _ hc
      cases h44 : (kindv (r : Int) == 4) with
      | true =>
        have hf := Lib.hid (show foldr1 r = r + 32 from if_pos (by simpa using h44))
        have hok3 : okRune (r + 32) := by rw [← hf.out]; exact fold_ok r hok
        have hcv := fun w => conv_one w ((r : Int) + 32)
        have hrb := Lib.hid (runesBytes_one A (r + 32) hok3)
        rw [show (((r + 32 : Nat) : Int)) = (r : Int) + 32 by omega] at hrb
        have hEs : (runesBytes [(r : Int) + 32]).size ≤ 4 := by rw [rb_one]; exact encode_size_le _
        generalize runesBytes [(r : Int) + 32] = E at hcv hrb hEs
        go_wp2_with (go_at_call 8; refine (refKind_any _ _).mono ?_; rintro e w' ⟨rfl, rfl⟩)
        clear hcv
        go_roundw
        case rel => exact ⟨k + 1, A ++ E, by omega, rfl, by go_num, bthen' hW ((Below.refl _ _).alloc (Nat.le_refl _) _), bthen' hW1 ((Below.refl _ _).alloc (Nat.le_refl _) _), by rw [HR.out, hrb.out, HA.out, hf.out]; rfl, by rw [ByteArray.size_append]; omega⟩
        case measure => simp [intOf]; omega
      | false =>
        have hf := Lib.hid (show foldr1 r = r from if_neg (by simpa using h44))
        have hcv := fun w => conv_one w ((r : Int))
        have hrb := Lib.hid (runesBytes_one A r hok)
        have hEs : (runesBytes [(r : Int)]).size ≤ 4 := by rw [rb_one]; exact encode_size_le _
        generalize runesBytes [(r : Int)] = E at hcv hrb hEs
        go_wp2_with (go_at_call 8; refine (refKind_any _ _).mono ?_; rintro e w' ⟨rfl, rfl⟩)
        clear hcv
        go_roundw
        case rel => exact ⟨k + 1, A ++ E, by omega, rfl, by go_num, bthen' hW ((Below.refl _ _).alloc (Nat.le_refl _) _), bthen' hW1 ((Below.refl _ _).alloc (Nat.le_refl _) _), by rw [HR.out, hrb.out, HA.out, hf.out], by rw [ByteArray.size_append]; omega⟩
        case measure => simp [intOf]; omega
    · obtain rfl : k = (runesL s.data.toList).length := by omega
      have HE := Lib.hid (show A = ⟨(foldL s.data.toList).toArray⟩ from bytes_of A _ (by rw [HA.out, List.take_length]; rfl))
      go_wp2_with fail
      go_ret
      exact ⟨ret_string HE.out, hW⟩

end Go.Proofs.Ytidccehmegognaa
