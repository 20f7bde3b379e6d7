/- The contracts of a strings.Builder that is written rune by rune; of Fold, and of the reference's Fold. -/
import Derived.Test.YtidccehmegognaaTextWalks
import Derived.Test.YtidccehmegognaaShelf
import Derived.Laws.Cover4
set_option linter.unusedVariables false
namespace Go.Proofs.Ytidccehmegognaa
open Go.RowKit

theorem sizeB : (Try.prog.info? 36).map (·.size) = some 2 := by kernel_rfl
theorem liesB : liesAt Try.prog Try.prog.depth 36 (2 / Try.prog.cellsOf 36) 0 36 1 = true := by kernel_rfl

theorem copyCheck_fresh (b : Nat) (w : World) (h0 : w.cell? ⟨b, 0, none⟩ = some (.pointer none)) (hsh : w.shape? b = some (36, 2)) (hfz : w.frozen? ⟨b, 0, none⟩ = false) :
    Calls Try.prog 26 #[.pointer (some ⟨b, 0, none⟩)] w fun e w' => e = .returned (.tuple #[]) ∧ w' = w.setCell ⟨b, 0, none⟩ (.pointer (some ⟨b, 0, none⟩)) := by
  obtain ⟨j, hj, hjs⟩ := Option.map_eq_some_iff.1 sizeB
  go_enter Try.func26, Try.ntmps26
  go_wp2
  rw [Lib.run_to_unsafe w ⟨b, 0, none⟩ Try.underlying33 Try.underlying48 hj (by rw [hjs]; decide) hsh (Nat.zero_lt_succ 1)]
  simp only [Result.andThen]
  rw [Oper.upon_value]
  go_wp2
  rw [run_callFunc_extern Try.func28 (by kernel_rfl) (by kernel_rfl) (by kernel_rfl) (e := Extern.AbiNoEscape.same) (by kernel_rfl)]
  rw [Lib.run_noEscape]
  simp only [Result.andThen]
  rw [Oper.upon_value]
  go_wp2
  rw [Lib.run_from_unsafe w ⟨b, 0, none⟩ Try.underlying48 Try.underlying33 hj hsh liesB]
  simp only [Result.andThen]
  rw [Oper.upon_value]
  go_wp2
  go_end0
  exact ⟨rfl, rfl⟩

theorem copyCheck_used (b : Nat) (w : World) (h0 : w.cell? ⟨b, 0, none⟩ = some (.pointer (some ⟨b, 0, none⟩))) :
    Calls Try.prog 26 #[.pointer (some ⟨b, 0, none⟩)] w fun e w' => e = .returned (.tuple #[]) ∧ w' = w := by
  obtain ⟨j, hj, _⟩ := Option.map_eq_some_iff.1 sizeB
  go_enter Try.func26, Try.ntmps26
  go_wp2
  rw [Lib.run_neq_ptr_same w _ Try.underlying33 hj]
  go_wp2
  go_end0
  exact ⟨rfl, rfl⟩

theorem copyCheck_k (B b : Nat) (bs : List Value) (w : World) (h : Lib.IsBuilderF 36 5 B b bs w) :
    Calls Try.prog 26 #[.pointer (some ⟨b, 0, none⟩)] w fun e w' => e = .returned (.tuple #[]) ∧ (Lib.BuilderAtF 36 5 B b (.pointer (some ⟨b, 0, none⟩)) bs w' ∧ Below B w w' ∧ Lib.OthersKept 5 (some b) w w') := by
  rcases h with h | h
  · refine (copyCheck_fresh b w h.cell0 h.shape h.frozen0).mono ?_
    rintro e w' ⟨rfl, rfl⟩
    exact ⟨rfl, h.used _, (Below.refl B w).setCell (p := ⟨b, 0, none⟩) h.1 _, (Lib.OthersKept.refl _ _ w).setCell ⟨b, 0, none⟩ rfl _⟩
  · refine (copyCheck_used b w h.cell0).mono ?_
    rintro e w' ⟨rfl, rfl⟩
    exact ⟨rfl, h, Below.refl B _, Lib.OthersKept.refl _ _ _⟩

set_option maxHeartbeats 4000000 in
set_option maxRecDepth 100000 in
theorem writeRune_k (B b : Nat) (bs : List Value) (r : Int) (hr0 : -2147483648 ≤ r) (hr1 : r ≤ 2147483647) (w : World) (h : Lib.IsBuilderF 36 5 B b bs w) (hlen : bs.length + 4 ≤ 140737488355328) (hBw : B ≤ w.heap.size) :
    Calls Try.prog 22 #[.pointer (some ⟨b, 0, none⟩), .int .i32 r] w fun e w' => e = .returned (.tuple #[.int .i64 (Lib.runeCells r).length, .nilIface]) ∧ (Lib.BuilderAtF 36 5 B b (.pointer (some ⟨b, 0, none⟩)) (bs ++ Lib.runeCells r) w' ∧ Below B w w' ∧ Lib.OthersKept 5 (some b) w w') := by
  have hk4 := Lib.runeCells_le r
  go_enter Try.func22, Try.ntmps22
  go_wp2_with (go_at_call 26; refine (copyCheck_k B b bs _ h).mono ?_)
  rintro e w1 ⟨rfl, h1, hb1, hk1⟩
  obtain ⟨hB, v, hbk, hown, hne⟩ := h1
  obtain ⟨ao, cap, rfl⟩ : ∃ ao cap, v = .slice ao bs.length cap := by
    rcases hown.2 with ⟨hv, h0⟩ | ⟨g, cap, cur, fz, hv, _⟩
    · exact ⟨none, 0, by rw [hv, h0]⟩
    · exact ⟨_, _, hv⟩
  have c0 : w1.cell? ⟨b, 0, none⟩ = some (.pointer (some ⟨b, 0, none⟩)) := by rw [Lib.cell_of_heap hbk]; rfl
  have c1 : w1.cell? ⟨b, 1, none⟩ = some (.slice ao bs.length cap) := by rw [Lib.cell_of_heap hbk]; rfl
  go_wp2_with (go_at_call 27; refine (Try.utf8_AppendRune_row B _ bs.length bs r hr0 hr1 _ hown hlen (by have := hb1.size; omega)).mono ?_)
  rintro e w2 ⟨v', rfl, hown', o, hgrow⟩
  have hlt : b < w1.heap.size := by
    rcases Nat.lt_or_ge b w1.heap.size with h' | h'
    · exact h'
    · simp [Array.getElem?_eq_none h'] at hbk
  have hb2 : w2.heap[b]? = some (.cells #[.pointer (some ⟨b, 0, none⟩), .slice ao bs.length cap] 36 (0, 0)) := by
    rw [hgrow.block b (by simp; omega) (fun e => hne e.symm), Lib.alloc_old w1 _ b hlt]
    exact hbk
  have d0 : w2.cell? ⟨b, 0, none⟩ = some (.pointer (some ⟨b, 0, none⟩)) := by rw [Lib.cell_of_heap hb2]; rfl
  have d1 : w2.cell? ⟨b, 1, none⟩ = some (.slice ao bs.length cap) := by rw [Lib.cell_of_heap hb2]; rfl
  have f1 : w2.frozen? ⟨b, 1, none⟩ = false := Lib.frozen_of_heap hb2 1
  obtain ⟨g, cap', rfl⟩ : ∃ g cap', v' = .slice (some ⟨g, 0, none⟩) (bs.length + (Lib.runeCells r).length) cap' := by
    rcases hown'.2 with ⟨_, h0⟩ | ⟨g, cap', cur, fz, hv, _⟩
    · omega
    · exact ⟨g, cap', hv⟩
  go_wp2
  go_ret2
  refine ⟨?_, ?_, ?_, ((hk1.alloc _).grown hgrow (Lib.ownsRowF_kind (hown.alloc _))).setCell ⟨b, 1, none⟩ rfl _⟩
  · have e : ((bs.length : Int) + ((Lib.runeCells r).length : Int) - (bs.length : Int)) = ((Lib.runeCells r).length : Int) := by omega
    simp [e]
  · exact Lib.BuilderAtF.put (T := 36) (e := 5) hB hb2 (bs' := bs ++ Lib.runeCells r) (by simpa using hown') (by decide)
  · exact ((hb1.alloc (by have := hb1.size; omega) _).grown hgrow (by have := hb1.size; simp; omega) (fun k hk => (hown.lt k hk).1)).setCell (p := ⟨b, 1, none⟩) hB _

theorem builderBelow {B b : Nat} {bs : List Value} {w w' : World} (h : Lib.IsBuilderF 36 5 B b bs w) (hb : Below w.heap.size w w') : Lib.IsBuilderF 36 5 B b bs w' := by
  have one : ∀ p, Lib.BuilderAtF 36 5 B b p bs w → Lib.BuilderAtF 36 5 B b p bs w' := by
    rintro p ⟨hB, v, hbk, ⟨hl, hown⟩, hne⟩
    refine ⟨hB, v, by rw [hb.block _ (lt_of_block hbk), hbk], ⟨hl, ?_⟩, hne⟩
    rcases hown with h0 | ⟨g, cap, cur, fz, hv, hbg, hg, r⟩
    · exact .inl h0
    · exact .inr ⟨g, cap, cur, fz, hv, hbg, by rw [hb.block _ (lt_of_block hg), hg], r⟩
  exact h.imp (one _) (one _)

/-- What is folded up to a place, and what is left. -/
def FoldRest (l rest acc : List UInt8) : Prop := foldL l = acc ++ foldL rest
theorem FoldRest.start (l : List UInt8) : FoldRest l (l.drop 0) [] := rfl
theorem FoldRest.step {l rest rest' acc : List UInt8} {r : Nat} (h : FoldRest l rest acc) (he : runesL rest = r :: runesL rest') : FoldRest l rest' (acc ++ Lib.encodeRune ((foldr1 r : Nat) : Int)) := by
  unfold FoldRest at *
  rw [h]
  unfold foldL
  rw [he]
  simp
theorem FoldRest.done {l rest acc : List UInt8} (h : FoldRest l rest acc) (he : runesL rest = []) : acc = foldL l := by
  unfold FoldRest at *
  rw [h]
  unfold foldL
  rw [he]
  simp

set_option maxHeartbeats 4000000 in
set_option maxRecDepth 100000 in
theorem fold_any (s : ByteArray) (hs : s.size ≤ 35184372088832) (w : World) :
    Calls Try.prog 12 #[.string s] w fun e w' => e = .returned (.string ⟨(foldL s.data.toList).toArray⟩) ∧ Below w.heap.size w w' := by
  go_enter Try.func12, Try.ntmps12
  go_wp2_with fail
  go_loopw [5] (fun _ wr => ∃ (pos : Nat) (acc : List UInt8), Lib.IsBuilderF 36 5 w.heap.size w.heap.size (Lib.byteCells acc) wr ∧ wr.heap[w.heap.size + 1]? = some (.stringIter s pos) ∧ Below w.heap.size w wr ∧ FoldRest s.data.toList (s.data.toList.drop pos) acc ∧ pos ≤ s.size ∧ acc.length ≤ 4 * pos) (fun _ wr => s.size - wr.iterPos (w.heap.size + 1))
  case atStart =>
    refine ⟨0, [], (Lib.IsBuilderF.of (Lib.fresh_isBuilder 36 5 w)).alloc _, ?_, ((Below.refl _ w).alloc (Nat.le_refl _) _).alloc (by simp) _, rfl, by omega, by simp⟩
    have := World.iter_heap (w.alloc (.cells #[.pointer none, .slice none 0 0] 36)) s 0
    simpa using this
  case round =>
    obtain ⟨pos, acc, hI, hit, hbw, hF, hps, hal⟩ := hrel
    have HF := Lib.hid hF
    clear hF
    have hsz : w.heap.size + 1 < wr.heap.size := (Array.getElem?_eq_some_iff.1 hit).1
    by_cases hp : pos < s.size
    · have hnx : ∀ ty, (Instr.next (.pointer (some ⟨w.heap.size + 1, 0, none⟩)) true ty).run Try.prog wr = _ := fun ty => Lib.run_next_any_at wr (w.heap.size + 1) s pos ty hit hp
      obtain ⟨h1, h2, h3, h4⟩ := rune_step s pos hp
      have hI2 := hI.iterAt hit (pos + (Utf8.decode s pos).2)
      have hit2 := Lib.iterAt_heap wr (w.heap.size + 1) s pos (pos + (Utf8.decode s pos).2) hit
      have hbw2 := Lib.below_iterAt hbw (k := w.heap.size + 1) (by omega) s (pos + (Utf8.decode s pos).2)
      have hsz2 : w.heap.size + 1 < (wr.iterAt (w.heap.size + 1) s (pos + (Utf8.decode s pos).2)).heap.size := by rw [Lib.iterAt_size]; omega
      have HN := Lib.hid (HF.out.step h1)
      have HI := Lib.hid hI2
      have HT := Lib.hid hit2
      have HT0 := Lib.hid hit
      have HB := Lib.hid hbw2
      clear h1 hI2 hit2 hit hbw2 hI hbw
      cases h44 : (kindv ((Utf8.decode s pos).1 : Int) == 4) with
      | true =>
        have hf := Lib.hid (show foldr1 (Utf8.decode s pos).1 = (Utf8.decode s pos).1 + 32 from if_pos (by simpa using h44))
        go_wp2_with (first
          | (go_at_call 7; refine (kind_any _ _ (by omega) (by omega)).mono ?_; rintro e W1 ⟨rfl, hb1⟩; have hI3 := Lib.hid (builderBelow HI.out hb1); have hsz3 := hb1.size)
          | (go_at_call 22; refine (writeRune_k w.heap.size w.heap.size _ _ (by omega) (by omega) _ hI3.out (by rw [Lib.byteCells_length]; omega) (by omega)).mono ?_; rintro e W2 ⟨rfl, hB2, hb2, hk2⟩))
        have hit3 : W2.heap[w.heap.size + 1]? = some (.stringIter s (pos + (Utf8.decode s pos).2)) := hk2.iter ((hb1.block _ hsz2).trans HT.out) (by omega)
        have hl4 := Lib.runeCells_le (((Utf8.decode s pos).1 : Int) + 32)
        rw [Lib.runeCells_length] at hl4
        go_roundw
        case rel =>
          refine ⟨pos + (Utf8.decode s pos).2, acc ++ Lib.encodeRune (((Utf8.decode s pos).1 : Int) + 32), ?_, hit3, (bthen' HB.out hb1).trans hb2, ?_, h3, by simp; omega⟩
          · rw [Lib.byteCells_append, Lib.byteCells_encodeRune]; exact .inr hB2
          · have := HN.out
            rw [hf.out] at this
            exact this
        case measure =>
          have h6 := HT0.out
          simp only [World.iterPos, hit3, h6]
          omega
      | false =>
        have hf := Lib.hid (show foldr1 (Utf8.decode s pos).1 = (Utf8.decode s pos).1 from if_neg (by simpa using h44))
        go_wp2_with (first
          | (go_at_call 7; refine (kind_any _ _ (by omega) (by omega)).mono ?_; rintro e W1 ⟨rfl, hb1⟩; have hI3 := Lib.hid (builderBelow HI.out hb1); have hsz3 := hb1.size)
          | (go_at_call 22; refine (writeRune_k w.heap.size w.heap.size _ _ (by omega) (by omega) _ hI3.out (by rw [Lib.byteCells_length]; omega) (by omega)).mono ?_; rintro e W2 ⟨rfl, hB2, hb2, hk2⟩))
        have hit3 : W2.heap[w.heap.size + 1]? = some (.stringIter s (pos + (Utf8.decode s pos).2)) := hk2.iter ((hb1.block _ hsz2).trans HT.out) (by omega)
        have hl4 := Lib.runeCells_le ((Utf8.decode s pos).1 : Int)
        rw [Lib.runeCells_length] at hl4
        go_roundw
        case rel =>
          refine ⟨pos + (Utf8.decode s pos).2, acc ++ Lib.encodeRune ((Utf8.decode s pos).1 : Int), ?_, hit3, (bthen' HB.out hb1).trans hb2, ?_, h3, by simp; omega⟩
          · rw [Lib.byteCells_append, Lib.byteCells_encodeRune]; exact .inr hB2
          · have := HN.out
            rw [hf.out] at this
            exact this
        case measure =>
          have h6 := HT0.out
          simp only [World.iterPos, hit3, h6]
          omega
    · have hnx : ∀ ty, (Instr.next (.pointer (some ⟨w.heap.size + 1, 0, none⟩)) true ty).run Try.prog wr = _ := fun ty => Lib.run_next_end_at wr (w.heap.size + 1) s pos ty hit hp
      have HD := Lib.hid (HF.out.done (rune_end s pos hp))
      go_wp2_with (go_at_call 23; refine (Try.Builder_String_any_f w.heap.size w.heap.size acc wr hI (by omega)).mono ?_; rintro e W1 ⟨rfl, h1, h2⟩)
      go_ret
      exact ⟨by rw [← HD.out]; rfl, hbw.trans h2⟩

end Go.Proofs.Ytidccehmegognaa
