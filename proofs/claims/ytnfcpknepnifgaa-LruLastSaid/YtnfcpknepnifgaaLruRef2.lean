/- The document's table: Drop, Put, Peek, Get, Keys. -/
import Derived.Test.YtnfcpknepnifgaaLruRef
set_option linter.unusedVariables false
namespace Go.Proofs.Ytnfcpknepnifgaa
open Go.RowKit

theorem tRow : (Try.prog.info? 39).map (·.size) = some 2 := by kernel_rfl
theorem ed_skip {α : Type} (L : List α) (i : Nat) : (L.take (i + 1)).eraseIdx i = (L.take i).eraseIdx i := by
  refine List.ext_getElem? (fun j => ?_)
  rw [List.getElem?_eraseIdx, List.getElem?_eraseIdx, List.getElem?_take, List.getElem?_take, List.getElem?_take, List.getElem?_take]
  repeat' split
  all_goals first | rfl | omega
theorem ed_add {α : Type} {L : List α} {i k : Nat} {x : α} (hx : L[k]? = some x) (h : k ≠ i) : (L.take (k + 1)).eraseIdx i = (L.take k).eraseIdx i ++ [x] := by
  have hk := (List.getElem?_eq_some_iff.1 hx).1
  rw [← take_snoc hx]
  by_cases h2 : i < k
  · rw [List.eraseIdx_append_of_lt_length (by simp; omega)]
  · rw [List.eraseIdx_of_length_le (by simp; omega), List.eraseIdx_of_length_le (by simp; omega)]

set_option maxRecDepth 100000 in
theorem rdrop_no (w : World) (B r : Nat) (room : Int) (u : Value) (L : List Th) (h : RT B w r room u L) (k : ByteArray) (hk : ∀ x ∈ L, x.key ≠ k) :
    Calls Try.prog 26 #[.pointer (some ⟨r, 0, none⟩), .string k] w fun e w' => e = .returned (.bool false) ∧ Below w.heap.size w w' := by
  have KF := rfind_any w room u L h.out.lts (by have := h.few; omega) k
  rw [ixK_none L 0 hk] at KF
  have KF := Lib.hid KF
  have hr := h.box.range
  clear h hk
  go_enter Try.func26, Try.ntmps26
  go_wp2_with (first
    | (refine wpList_load_mid rfl 39 _ rfl r 0 rfl [.int .i64 room, u] _ hr Try.underlying39 rfl tRow ?_)
    | (go_at_call 29; refine KF.out.mono ?_; rintro e W2 ⟨rfl, hb2⟩))
  go_ret
  exact ⟨rfl, hb2⟩

theorem ReadsAt.mono {α : Type} {R : Rec α} {B B' : Nat} {w : World} {v : Value} {L : List α} (h : ReadsAt R B w v L) (hb : B' ≤ B) : ReadsAt R B' w v L := by
  rcases h with h | ⟨b, off, cap, hv, h2, hr⟩
  · exact .inl h
  · exact .inr ⟨b, off, cap, hv, by omega, hr⟩
theorem ReadsAt.below {α : Type} {R : Rec α} {B : Nat} {w w' : World} {v : Value} {L : List α} (h : ReadsAt R B w v L) (hb : Below w.heap.size w w') : ReadsAt R B w' v L := by
  rcases h with h | ⟨b, off, cap, hv, h2, hr⟩
  · exact .inl h
  · exact .inr ⟨b, off, cap, hv, h2, fun i x hx => below_range hb (hr i x hx)⟩
/-- The table is another one behind the call, its list in new memory. -/
def Turns (w : World) (B r : Nat) (room : Int) (L : List Th) (v : Value) (e : Ending) (w' : World) : Prop := e = .returned v ∧ Upd [r] w w' ∧ ∃ u, RT B w' r room u L ∧ ReadsAt thR w.heap.size w' u L

set_option maxRecDepth 100000 in
set_option maxHeartbeats 4000000 in
theorem rdrop_yes (w : World) (B r : Nat) (room : Int) (u : Value) (L : List Th) (h : RT B w r room u L) (i : Nat) (x : Th) (hx : L[i]? = some x) (hn : (L.map Th.key).Nodup) :
    Calls Try.prog 26 #[.pointer (some ⟨r, 0, none⟩), .string x.key] w (Turns w B r room (L.eraseIdx i) (.bool true)) := by
  obtain ⟨au, cu, rfl⟩ := h.out.lts.form
  have KF := rfind_any w room _ L h.out.lts (by have := h.few; omega) x.key
  rw [ixK_at L 0 i x hn hx rfl, Nat.zero_add] at KF
  have KF := Lib.hid KF
  have hr := h.box.range
  have hil := (List.getElem?_eq_some_iff.1 hx).1
  have HT := Lib.hid h
  have hfew := h.few
  have hrl := h.lt
  clear h hx hn
  go_enter Try.func26, Try.ntmps26
  go_upto_block 0 with (first
    | (refine wpList_load_mid rfl 39 _ rfl r 0 rfl [.int .i64 room, .slice au L.length cu] _ hr Try.underlying39 rfl tRow ?_)
    | (go_at_call 29; refine KF.out.mono ?_; rintro e W2 ⟨rfl, hb2⟩; have hO2 := Owns.made (R := thR) (B := w.heap.size) (w := W2) hb2.size; have hb3 : Below W2.heap.size W2 (W2.alloc (.cells #[] thR.ty)) := (Below.refl _ _).alloc (Nat.le_refl _) _))
  have hW3 := bthen' hb2 hb3
  show Code.wp _ _ _ _ (W2.alloc (.cells #[] thR.ty))
  generalize W2.alloc (.cells #[] thR.ty) = W3 at hO2 hb3 hW3 ⊢
  clear hb2 hb3 hr
  have c1 := (HT.out.below hW3).box.get (i := 1) rfl
  go_wp2_with fail
  go_loopw [6, 7] (fun n j wr => ∃ q : Nat, q ≤ L.length ∧ j = .int .i64 q ∧ Below w.heap.size w wr ∧ Owns thR w.heap.size wr n ((L.take q).eraseIdx i)) (fun n j _ => L.length - (intOf j).toNat)
  case atStart => exact ⟨0, by omega, rfl, hW3, by simpa using hO2⟩
  case round =>
    clear hO2 hW3 c1
    obtain ⟨q, hq, rfl, hW, hO⟩ := hrel
    have HO := Lib.hid hO
    have hwr := hW.size
    have HT2 := HT.out.below hW
    have c1 := HT2.box.get (i := 1) rfl
    have c1f := HT2.box.free (i := 1) rfl
    clear hO
    by_cases hlt : q < L.length
    · obtain ⟨y, hy⟩ : ∃ y, L[q]? = some y := ⟨_, List.getElem?_eq_getElem hlt⟩
      obtain ⟨b, off, rfl, hr2⟩ := HT2.out.lts.at hy
      have hl2 : ((L.take q).eraseIdx i).length ≤ q := by
        have := List.length_eraseIdx_le (L.take q) i
        simp at this ⊢; omega
      by_cases hqi : q = i
      · have hqb : ((q : Int) != (i : Int)) = false := by simp [hqi]
        have T := Lib.hid (show (L.take q).eraseIdx i = (L.take (q + 1)).eraseIdx i from by rw [hqi, ed_skip])
        clear hy HT2 hqi
        go_wp2_with fail
        go_roundw
        case rel => exact ⟨q + 1, by omega, by go_num, hW, by rw [← T.out]; exact HO.out⟩
        case measure => simp [intOf]; omega
      · have hqb : ((q : Int) != (i : Int)) = true := by simp; omega
        have T := Lib.hid (ed_add hy hqi).symm
        clear hy HT2 hqi
        go_wp2_with (first
          | (refine wpList_load_mid rfl 61 _ rfl b (off + q * thR.n) rfl (thR.cells y) _ hr2 Try.underlying61 rfl (thOk.row y) ?_)
          | (refine wl_build_rec thOk rfl _ rfl y rfl ?_; have hx5 := built_range (R := thR) (w := wr) y; have hb5 : Below wr.heap.size wr (wr.alloc (.cells (thR.val y).cells thR.ty)) := (Below.refl _ _).alloc (Nat.le_refl _) _; generalize wr.alloc (.cells (thR.val y).cells thR.ty) = W5 at hx5 hb5 ⊢; have hOo := HO.out.below hb5; have hszT := hb5.size)
          | (refine wl_append_rec thOk rfl _ _ rfl w.heap.size _ ((L.take q).eraseIdx i) rfl hOo wr.heap.size 0 1 y rfl hx5 (by omega) (by omega) ?_; intro g cap W6 hO6 hg6 hat6))
        rw [T.out] at hO6
        have hW6 := (bthen' hW hb5).grown hg6 (by omega) (fun k hk => (hOo.lt k hk).1)
        go_roundw
        case rel => exact ⟨q + 1, by omega, by go_num, hW6, hO6⟩
        case measure => simp [intOf]; omega
    · obtain rfl : q = L.length := by omega
      have hO := HO.out
      rw [List.take_length] at hO
      obtain ⟨a6, cap6, rfl⟩ := hO.form
      have HO2 := Lib.hid hO
      have HT3 := Lib.hid HT2
      clear HO hO HT2
      go_wp2_with fail
      go_ret
      have hU : Upd [r] wr (wr.setCell ⟨r, 1, none⟩ (.slice a6 (L.eraseIdx i).length cap6)) := (Upd.refl _ _).setCell (by simp) _
      have hO4 := HO2.out.upd hU (fun k hk => by have := (HO2.out.lt k hk).1; simp; omega)
      refine ⟨rfl, (Upd.ofBelow _ hW).trans hU, _, ⟨HT3.out.box.set 1 (.slice a6 (L.eraseIdx i).length cap6), ?_, HT3.out.low, ?_⟩, hO4.at thOk⟩
      · exact hO4.outF thOk _ (fun k hk => by have := (HO2.out.lt k hk).1; simp; omega)
      · have := List.length_eraseIdx_le L i; omega

theorem rpeek_yes (w : World) (B r : Nat) (room : Int) (u : Value) (L : List Th) (h : RT B w r room u L) (i : Nat) (x : Th) (hx : L[i]? = some x) (hn : (L.map Th.key).Nodup) :
    Calls Try.prog 25 #[tagg room u, .string x.key] w fun e w' => e = .returned (.tuple #[.int .i64 x.v, .bool true]) ∧ Below w.heap.size w w' := by
  obtain ⟨au, cu, rfl⟩ := h.out.lts.form
  have hb : Below w.heap.size w (w.alloc (.cells [.int .i64 room, .slice au L.length cu].toArray 39)) := (Below.refl _ _).alloc (Nat.le_refl _) _
  have hC := Cel.new w 39 [.int .i64 room, .slice au L.length cu]
  obtain ⟨W1, hW1⟩ : ∃ W1, W1 = w.alloc (.cells [.int .i64 room, .slice au L.length cu].toArray 39) := ⟨_, rfl⟩
  rw [← hW1] at hb hC
  have KF := rfind_any W1 room _ L (h.below hb).out.lts (by have := h.few; omega) x.key
  rw [ixK_at L 0 i x hn hx rfl, Nat.zero_add] at KF
  have KF := Lib.hid KF
  have hil := (List.getElem?_eq_some_iff.1 hx).1
  obtain ⟨b, off, rfl, hr2⟩ := (h.below hb).out.lts.at hx
  have HR2 := Lib.hid hr2
  have HC := Lib.hid hC
  clear h hx hn hr2
  go_enter Try.func25, Try.ntmps25
  go_upto_region 1 with fail
  show Code.wp _ _ _ _ (w.alloc (.cells [.int .i64 room, .slice (some ⟨b, off, none⟩) L.length cu].toArray 39))
  rw [← hW1]
  clear hW1
  have hr := hC.range
  clear hC
  go_wp2_with (first
    | (refine wpList_load_mid rfl 39 _ rfl w.heap.size 0 rfl [.int .i64 room, .slice (some ⟨b, off, none⟩) L.length cu] _ hr Try.underlying39 rfl tRow ?_)
    | (go_at_call 29; refine KF.out.mono ?_; rintro e W2 ⟨rfl, hb2⟩; have c1 := (HC.out.below hb2).get (i := 1) rfl; obtain ⟨-, v1⟩ := th_cells (below_range hb2 HR2.out); replace v1 : W2.cell? ⟨b, off + i * 2 + 1, none⟩ = _ := v1))
  go_ret2
  exact ⟨rfl, bthen' hb hb2⟩
theorem rpeek_no (w : World) (B r : Nat) (room : Int) (u : Value) (L : List Th) (h : RT B w r room u L) (k : ByteArray) (hk : ∀ x ∈ L, x.key ≠ k) :
    Calls Try.prog 25 #[tagg room u, .string k] w fun e w' => e = .returned (.tuple #[.int .i64 0, .bool false]) ∧ Below w.heap.size w w' := by
  have hb : Below w.heap.size w (w.alloc (.cells [.int .i64 room, u].toArray 39)) := (Below.refl _ _).alloc (Nat.le_refl _) _
  have hC := Cel.new w 39 [.int .i64 room, u]
  obtain ⟨W1, hW1⟩ : ∃ W1, W1 = w.alloc (.cells [.int .i64 room, u].toArray 39) := ⟨_, rfl⟩
  rw [← hW1] at hb hC
  have KF := rfind_any W1 room _ L (h.below hb).out.lts (by have := h.few; omega) k
  rw [ixK_none L 0 hk] at KF
  have KF := Lib.hid KF
  clear h hk
  go_enter Try.func25, Try.ntmps25
  go_upto_region 1 with fail
  show Code.wp _ _ _ _ (w.alloc (.cells [.int .i64 room, u].toArray 39))
  rw [← hW1]
  clear hW1
  have hr := hC.range
  clear hC
  go_wp2_with (first
    | (refine wpList_load_mid rfl 39 _ rfl w.heap.size 0 rfl [.int .i64 room, u] _ hr Try.underlying39 rfl tRow ?_)
    | (go_at_call 29; refine KF.out.mono ?_; rintro e W2 ⟨rfl, hb2⟩))
  go_ret2
  exact ⟨rfl, bthen' hb hb2⟩

end Go.Proofs.Ytnfcpknepnifgaa
