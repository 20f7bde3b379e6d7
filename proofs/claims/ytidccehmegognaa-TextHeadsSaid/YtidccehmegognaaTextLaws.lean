/- The walks of the statements on texts. -/
import Derived.Test.YtidccehmegognaaTextFold2
set_option linter.unusedVariables false
namespace Go.Proofs.Ytidccehmegognaa
open Go.RowKit

theorem fold_lit (w : World) : Calls Try.prog 12 #[.string ⟨#[195, 132, 66, 45, 49]⟩] w fun e w' => e = .returned (.string ⟨#[195, 164, 98, 45, 49]⟩) ∧ Below w.heap.size w w' := by
  have h := fold_any ⟨#[195, 132, 66, 45, 49]⟩ (by decide) w
  have e : foldL [195, 132, 66, 45, 49] = [195, 164, 98, 45, 49] := by decide +kernel
  have e2 : (foldL (ByteArray.mk #[195, 132, 66, 45, 49]).data.toList).toArray = #[195, 164, 98, 45, 49] := congrArg List.toArray e
  rw [e2] at h
  exact h
theorem name_lit1 (w : World) : Calls Try.prog 10 #[.string ⟨#[195, 164, 98, 45, 49]⟩] w fun e w' => e = .returned (.bool true) ∧ Below w.heap.size w w' := by
  have h := name_any w ⟨#[195, 164, 98, 45, 49]⟩ (by decide)
  have e : nameB (ByteArray.mk #[195, 164, 98, 45, 49]).data.toList = true := by decide +kernel
  rw [e] at h
  exact h
theorem name_lit2 (w : World) : Calls Try.prog 10 #[.string ⟨#[97, 32, 98]⟩] w fun e w' => e = .returned (.bool false) ∧ Below w.heap.size w w' := by
  have h := name_any w ⟨#[97, 32, 98]⟩ (by decide)
  have e : nameB (ByteArray.mk #[97, 32, 98]).data.toList = false := by decide +kernel
  rw [e] at h
  exact h

theorem live03_any (w : World) : Calls Try.prog 9 #[] w fun e w' => e = .returned (.bool true) ∧ Below w.heap.size w w' := by
  go_enter Try.func9, Try.ntmps9
  go_wp2_with (first
    | (go_at_call 12; refine (fold_lit _).mono ?_; rintro e W1 ⟨rfl, hb1⟩)
    | (go_at_call 10; with_reducible refine (name_lit1 _).mono ?_; rintro e W2 ⟨rfl, hb2⟩)
    | (go_at_call 10; with_reducible refine (name_lit2 _).mono ?_; rintro e W3 ⟨rfl, hb3⟩))
  go_ret
  exact ⟨rfl, bthen' (bthen' hb1 hb2) hb3⟩

theorem textKinds_of (r : Int) (h0 : -2147483648 ≤ r) (h1 : r ≤ 2147483647) (w : World) : Calls Try.prog 3 #[.int .i32 r] w fun e w' => e = .returned (.bool true) ∧ Below w.heap.size w w' := by
  go_enter Try.func3, Try.ntmps3
  go_wp2_with (first
    | (go_at_call 7; refine (kind_any _ _ h0 h1).mono ?_; rintro e W1 ⟨rfl, hb1⟩)
    | (go_at_call 8; refine (refKind_any _ _).mono ?_; rintro e w' ⟨rfl, rfl⟩)
    | (go_at_call 9; refine (live03_any _).mono ?_; rintro e W2 ⟨rfl, hb2⟩))
  go_ret
  exact ⟨rfl, bthen' hb1 hb2⟩

set_option maxRecDepth 100000 in
set_option maxHeartbeats 1000000 in
theorem textNames_of (s : ByteArray) (hs : s.size ≤ 9223372036854775807) (w : World) : Calls Try.prog 4 #[.string s] w fun e w' => e = .returned (.bool true) ∧ Below w.heap.size w w' := by
  by_cases hbig : 1000 < s.size
  · go_enter Try.func4, Try.ntmps4
    go_wp2_with (go_at_call 9; refine (live03_any _).mono ?_; rintro e W2 ⟨rfl, hb2⟩)
    go_ret
    exact ⟨rfl, hb2⟩
  · go_enter Try.func4, Try.ntmps4
    go_wp2_with (first
      | (go_at_call 10; refine (name_any _ _ hs).mono ?_; rintro e W1 ⟨rfl, hb1⟩)
      | (go_at_call 11; refine (refName_any _ _ hs).mono ?_; rintro e W2 ⟨rfl, hb2⟩)
      | (go_at_call 12; refine (fold_any _ (by omega) _).mono ?_; rintro e W3 ⟨rfl, hb3⟩)
      | (go_at_call 13; refine (refFold_any _ _ (by omega)).mono ?_; rintro e W4 ⟨rfl, hb4⟩)
      | (go_at_call 14; refine (count_any _ _ hs).mono ?_; rintro e W5 ⟨rfl, hb5⟩)
      | (go_at_call 15; refine (runes_any _ _ (by omega)).mono ?_; rintro e W6 ⟨v6, rfl, hb6, hO6⟩; obtain ⟨a6, cap6, rfl⟩ := hO6.form)
      | (go_at_call 9; refine (live03_any _).mono ?_; rintro e W7 ⟨rfl, hb7⟩))
    go_ret
    exact ⟨rfl, bthen' (bthen' (bthen' (bthen' (bthen' (bthen' hb1 hb2) hb3) hb4) hb5) hb6) hb7⟩

theorem data_mk (l : List UInt8) : (ByteArray.mk l.toArray).data.toList = l := by simp
theorem mk_size (l : List UInt8) : (ByteArray.mk l.toArray).size = l.length := by simp [ByteArray.size]
theorem mk_of (s : ByteArray) (l : List UInt8) (h : l = s.data.toList) : (ByteArray.mk l.toArray) = s := by subst h; cases s; simp

set_option maxRecDepth 100000 in
set_option maxHeartbeats 1000000 in
theorem textFolds_of (s : ByteArray) (hs : s.size ≤ 9223372036854775807) (w : World) : Calls Try.prog 5 #[.string s] w fun e w' => e = .returned (.bool true) ∧ Below w.heap.size w w' := by
  by_cases hbig : 1000 < s.size
  · go_enter Try.func5, Try.ntmps5
    go_wp2_with (go_at_call 9; refine (live03_any _).mono ?_; rintro e W2 ⟨rfl, hb2⟩)
    go_ret
    exact ⟨rfl, hb2⟩
  · obtain ⟨f, hf⟩ : ∃ f : ByteArray, f = ⟨(foldL s.data.toList).toArray⟩ := ⟨_, rfl⟩
    have hfs : f.size ≤ 4000 := by
      have h1 := foldL_le s.data.toList
      have h2 : s.data.toList.length = s.size := rfl
      rw [hf, mk_size]; omega
    have hfd : f.data.toList = foldL s.data.toList := by rw [hf, data_mk]
    have hff : (⟨(foldL f.data.toList).toArray⟩ : ByteArray) = f := by rw [hfd, foldL_idem, hf]
    have hcnt : (runesL f.data.toList).length = (runesL s.data.toList).length := by rw [hfd, runes_fold]; simp
    have hk4 : ∀ r ∈ runesL f.data.toList, kindv (r : Int) ≠ 4 := by
      rw [hfd, runes_fold]
      intro r hr
      obtain ⟨x, _, rfl⟩ := List.mem_map.1 hr
      exact fold_kind x
    have hnm : nameB s.data.toList = true → f = s := fun h => by rw [hf]; exact mk_of _ _ (name_fold _ h)
    have cFold : ∀ w, Calls Try.prog 12 #[.string s] w fun e w' => e = .returned (.string f) ∧ Below w.heap.size w w' := fun w => by rw [hf]; exact fold_any s (by omega) w
    have cFold2 : ∀ w, Calls Try.prog 12 #[.string f] w fun e w' => e = .returned (.string f) ∧ Below w.heap.size w w' := fun w => by
      have h := fold_any f (by omega) w
      rw [hff] at h
      exact h
    have cCount2 : ∀ w, Calls Try.prog 14 #[.string f] w fun e w' => e = .returned (.int .i64 (runesL s.data.toList).length) ∧ Below w.heap.size w w' := fun w => by rw [← hcnt]; exact count_any w f (by omega)
    have CF := Lib.hid cFold
    have CF2 := Lib.hid cFold2
    have CC2 := Lib.hid cCount2
    have HK := Lib.hid hk4
    have HN := Lib.hid hnm
    clear hf hfd hff hcnt hk4 hnm cFold cFold2 cCount2
    go_enter Try.func5, Try.ntmps5
    go_wp2_with (go_at_call 12; refine (CF.out _).mono ?_; rintro e W1 ⟨rfl, hb1⟩)
    go_outline
    go_loopw [5] (fun _ wr => ∃ pos : Nat, wr.heap[W1.heap.size]? = some (.stringIter f pos) ∧ Below w.heap.size w wr ∧ (∀ r ∈ runesL (f.data.toList.drop pos), kindv (r : Int) ≠ 4) ∧ pos ≤ f.size) (fun _ wr => f.size - wr.iterPos W1.heap.size)
    case atStart => exact ⟨0, iter_first W1 f, bthen' hb1 ((Below.refl _ _).alloc (Nat.le_refl _) _), HK.out, by omega⟩
    case round =>
      obtain ⟨pos, hit, hbw, hF, hps⟩ := hrel
      have HF := Lib.hid hF
      clear hF
      by_cases hp : pos < f.size
      · have hnx : ∀ ty, (Instr.next (.pointer (some ⟨W1.heap.size, 0, none⟩)) true ty).run Try.prog wr = _ := fun ty => Lib.run_next_any_at wr W1.heap.size f pos ty hit hp
        obtain ⟨h1, h2, h3, h4⟩ := rune_step f pos hp
        have hit2 := Lib.iterAt_heap wr W1.heap.size f pos (pos + (Utf8.decode f pos).2) hit
        have hbw2 := Lib.below_iterAt hbw (k := W1.heap.size) hb1.size f (pos + (Utf8.decode f pos).2)
        have hsz2 : W1.heap.size < (wr.iterAt W1.heap.size f (pos + (Utf8.decode f pos).2)).heap.size := by rw [Lib.iterAt_size]; exact (Array.getElem?_eq_some_iff.1 hit).1
        have h44 : (kindv ((Utf8.decode f pos).1 : Int) == 4) = false := by
          have := HF.out (Utf8.decode f pos).1 (by rw [h1]; simp)
          simpa using this
        have HN2 := Lib.hid (show ∀ r ∈ runesL (f.data.toList.drop (pos + (Utf8.decode f pos).2)), kindv (r : Int) ≠ 4 from fun r hr => HF.out r (by rw [h1]; simp [hr]))
        have HT := Lib.hid hit2
        have HT0 := Lib.hid hit
        clear h1 hit2 hit
        go_wp2_with (go_at_call 7; refine (kind_any _ _ (by omega) (by omega)).mono ?_; rintro e W2 ⟨rfl, hb2⟩)
        have hit3 := (hb2.block _ hsz2).trans HT.out
        go_roundw
        case rel => exact ⟨pos + (Utf8.decode f pos).2, hit3, bthen' hbw2 hb2, HN2.out, h3⟩
        case measure =>
          have h6 := HT0.out
          simp only [World.iterPos, hit3, h6]
          omega
      · have hnx : ∀ ty, (Instr.next (.pointer (some ⟨W1.heap.size, 0, none⟩)) true ty).run Try.prog wr = _ := fun ty => Lib.run_next_end_at wr W1.heap.size f pos ty hit hp
        cases hnb : nameB s.data.toList with
        | true =>
          have hfe := HN.out hnb
          subst hfe
          go_wp2_with (first
            | (go_at_call 10; refine (name_any _ _ hs).mono ?_; rintro e W2 ⟨rfl, hb2⟩)
            | (go_at_call 12; refine (CF2.out _).mono ?_; rintro e W3 ⟨rfl, hb3⟩)
            | (go_at_call 14; refine (CC2.out _).mono ?_; first | (have _h := hb4; rintro e W5 ⟨rfl, hb5⟩) | (rintro e W4 ⟨rfl, hb4⟩))
            | (go_at_call 9; refine (live03_any _).mono ?_; rintro e W6 ⟨rfl, hb6⟩))
          go_ret
          exact ⟨rfl, bthen' (bthen' (bthen' (bthen' (bthen' hbw hb2) hb3) hb4) hb5) hb6⟩
        | false =>
          go_wp2_with (first
            | (go_at_call 10; refine (name_any _ _ hs).mono ?_; rintro e W2 ⟨rfl, hb2⟩)
            | (go_at_call 12; refine (CF2.out _).mono ?_; rintro e W3 ⟨rfl, hb3⟩)
            | (go_at_call 14; first | (with_reducible refine (CC2.out _).mono ?_; rintro e W4 ⟨rfl, hb4⟩) | (refine (count_any _ s hs).mono ?_; rintro e W5 ⟨rfl, hb5⟩))
            | (go_at_call 9; refine (live03_any _).mono ?_; rintro e W6 ⟨rfl, hb6⟩))
          go_ret
          exact ⟨rfl, bthen' (bthen' (bthen' (bthen' (bthen' hbw hb2) hb3) hb4) hb5) hb6⟩

end Go.Proofs.Ytidccehmegognaa
