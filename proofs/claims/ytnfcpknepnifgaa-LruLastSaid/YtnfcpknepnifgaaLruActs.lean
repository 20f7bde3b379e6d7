/- Calls of a table that came in; the walk of the statement on calls. (Printed by genlruacts.py.) -/
import Derived.Test.YtnfcpknepnifgaaLruDoes
set_option linter.unusedVariables false
namespace Go.Proofs.Ytnfcpknepnifgaa
open Go.ChangeShapes Go.WideShapes Go.ChangeAt Go.RowKit Go.Deep

theorem cellsI : Try.prog.cellsOf 3 = 1 := by kernel_rfl
theorem cellsS : Try.prog.cellsOf 9 = 1 := by kernel_rfl
theorem cellsA : Try.prog.cellsOf 24 = 3 := by kernel_rfl
theorem ac_cells {H : Type} {enc : TypeId × Value → H} {W : World} {base fuel : Nat} {spare : Nat → Bool} {held : Bool} {cs : List Value} {x : DataW H × List MemPlace} (hl : cs.length = 3)
    (h : DataW.trod enc Try.prog W base spare held fuel 24 cs = some x) : ∃ y : Ac, cs = acR.cells y := by
  obtain ⟨ys, m, _, rfl, _, hl2, hf⟩ := DataW.trod_struct Try.underlying24 h
  match cs, hl with
  | [a, b, c], _ =>
  match ys, hl2 with
  | [y0, y1, y2], _ =>
  have hy0 := hf 0 _ rfl
  have hy1 := hf 1 _ rfl
  have hy2 := hf 2 _ rfl
  simp [cellsI, cellsS] at hy0 hy1 hy2
  obtain ⟨A, eA, -, -⟩ := DataW.trod_int Try.underlying3 hy0
  obtain ⟨E, eE, -, -⟩ := DataW.trod_string Try.underlying9 hy1
  obtain ⟨D, eD, -, -⟩ := DataW.trod_int Try.underlying3 hy2
  simp at eA eE eD
  exact ⟨⟨A, E, D⟩, by rw [eA, eE, eD]; rfl⟩
theorem openActs {H : Type} {enc : TypeId × Value → H} {W : World} {b0 base : Nat} {r : Reach} {spare : Nat → Bool} {held : Bool} {v : Value} {d : DataW H} {p : List MemPlace}
    (hv : Value.okWide Try.prog W r b0 22 v) (h : DataW.Trod enc Try.prog W base spare held 22 v d p) : ∃ L : List Ac, Reads acR W v L :=
  openRecs acOk cellsA (fun hl h => ac_cells hl h) hv h
theorem openAct {H : Type} {enc : TypeId × Value → H} {W : World} {b0 base : Nat} {r : Reach} {spare : Nat → Bool} {held : Bool} {v : Value} {d : DataW H} {p : List MemPlace}
    (hv : Value.okWide Try.prog W r b0 24 v) (h : DataW.Trod enc Try.prog W base spare held 24 v d p) : ∃ y : Ac, v = .agg (acR.cells y).toArray := by
  obtain ⟨cs, rfl, hsz⟩ := okWide_struct Try.underlying24 hv
  obtain ⟨fuel, hf⟩ := h
  rw [cellsA] at hsz
  obtain ⟨y, hcs⟩ := ac_cells (by simpa [Value.cells] using hsz) hf
  simp only [Value.cells] at hcs
  exact ⟨y, by rw [← hcs]⟩

/-- An act in memory that was there. -/
structure ActAt (w : World) (b o : Nat) (a : Ac) : Prop where
  h : w.rangeAt b o (acR.cells a)
theorem ActAt.range {w w' : World} {b o : Nat} {a : Ac} (h : ActAt w b o a) (hb : Below w.heap.size w w') : w'.rangeAt b o (acR.cells a) := below_range hb h.h

set_option maxRecDepth 100000 in
set_option maxHeartbeats 1000000 in
theorem lruActs_far (w : World) (room : Int) (v : Value) (A : List Ac) (hv : Reads acR w v A) (h : 200 < A.length ∨ room < 1) :
    Calls Try.prog 4 #[.int .i64 room, v] w fun e w' => e = .returned (.bool true) ∧ Below w.heap.size w w' := by
  obtain ⟨av, capv, rfl⟩ := hv.form
  by_cases hr : room < 1
  · have KN := Lib.hid (new_none w room hr)
    by_cases h1 : 200 < A.length
    all_goals
      go_enter Try.func4, Try.ntmps4
      go_wp2_with (first
        | (go_at_call 6; refine KN.out.mono ?_; rintro e w' ⟨rfl, rfl⟩)
        | (go_at_call 7; refine (live12_any _).mono ?_; rintro e W2 ⟨rfl, hb2⟩))
      go_ret
      exact ⟨rfl, hb2⟩
  · have h1 : 200 < A.length := by omega
    have hr2 : 1 ≤ room := by omega
    have KN := Lib.hid (new_any w room hr2)
    clear h hv
    go_enter Try.func4, Try.ntmps4
    go_wp2_with (first
      | (go_at_call 6; refine KN.out.mono ?_; rintro e W1 ⟨t, c, m, rfl, hb1, hT1⟩)
      | (go_at_call 7; refine (live12_any _).mono ?_; rintro e W2 ⟨rfl, hb2⟩))
    go_ret
    exact ⟨rfl, bthen' hb1 hb2⟩

theorem both_start {w W1 : World} {t : Nat} {room : Int} {c m : Nat} (hb1 : Below w.heap.size w W1) (hT1 : TabI w.heap.size W1 t room c m []) (hr : 1 ≤ room) :
    Both w (W1.alloc (.cells #[.int .i64 room, .slice none 0 0] 39)) t W1.heap.size room c m [] (.slice none 0 0) := by
  have hb2 : Below W1.heap.size W1 (W1.alloc (.cells #[.int .i64 room, .slice none 0 0] 39)) := (Below.refl _ _).alloc (Nat.le_refl _) _
  exact ⟨bthen' hb1 hb2, hT1.below hb2, ⟨Cel.new W1 39 [.int .i64 room, .slice none 0 0], .inl ⟨rfl, none, 0, rfl⟩, hb1.size, by simp [thL]⟩, .inl ⟨rfl, none, 0, rfl⟩, by simp; omega⟩

set_option maxRecDepth 100000 in
set_option maxHeartbeats 1500000 in
theorem lruActs_yes (w : World) (room : Int) (v : Value) (A : List Ac) (hv : Reads acR w v A) (h1 : A.length ≤ 200) (hr : 1 ≤ room) :
    Calls Try.prog 4 #[.int .i64 room, v] w fun e w' => e = .returned (.bool true) ∧ Below w.heap.size w w' := by
  obtain ⟨av, capv, rfl⟩ := hv.form
  have HV := Lib.hid hv
  have KN := Lib.hid (new_any w room hr)
  clear hv
  go_enter Try.func4, Try.ntmps4
  go_upto_block 0 with (go_at_call 6; refine KN.out.mono ?_; rintro e W1 ⟨t, c, m, rfl, hb1, hT1⟩)
  have HS := both_start hb1 hT1 hr
  obtain ⟨r, hre⟩ : ∃ r, r = W1.heap.size := ⟨_, rfl⟩
  rw [← hre] at HS ⊢
  generalize W1.alloc (.cells #[.int .i64 room, .slice none 0 0] 39) = W2 at HS ⊢
  clear hb1 hT1 KN hre
  go_wp2_with fail
  go_loopw [7] (fun i wr => ∃ (k : Nat) (E : List (Ent Int)) (u : Value), k ≤ A.length ∧ E.length ≤ k ∧ i = .int .i64 k ∧ Both w wr t r room c m E u) (fun i _ => A.length - (intOf i).toNat)
  case atStart => exact ⟨0, [], _, by omega, by simp, rfl, HS⟩
  case round =>
    clear HS
    obtain ⟨k, E, u, hk, hE, rfl, hB⟩ := hrel
    have HB := Lib.hid hB
    by_cases hlt : k < A.length
    · obtain ⟨a, ha⟩ : ∃ a, A[k]? = some a := ⟨_, List.getElem?_eq_getElem hlt⟩
      obtain ⟨b, off, rfl, hr2⟩ := (HV.out.below hB.below).at ha
      obtain ⟨b9, off9, e9, hA9⟩ := HV.out.at ha
      obtain ⟨rfl, rfl⟩ : b = b9 ∧ off = off9 := by simpa using e9
      have hA : ActAt w b (off + k * acR.n) a := ⟨hA9⟩
      clear ha hB hA9 e9
      go_upto_region 8 with fail
      have hne : Nonempty (Mix.InS (fun x => x.rangeAt b (off + k * acR.n) (acR.cells a))) := ⟨⟨wr, hr2⟩⟩
      have HRA := Lib.hid hr2
      have RC := Lib.hid (fun (w' : World) (hx : ∃ x : Mix.InS (fun x => x.rangeAt b (off + k * acR.n) (acR.cells a)), w' = x.w) => (show w'.rangeAt b (off + k * acR.n) (acR.cells a) from by obtain ⟨z, rfl⟩ := hx; exact z.h))
      refine Mix.wp_region_mix [([0, 1, 2, 3, 4, 5], 6), ([7, 8, 9, 11, 12, 13], 10), ([], 14), ([], 15), ([16, 17, 18, 19, 21, 22, 23, 24, 25], 20), ([26, 27, 28, 29, 31], 30)] [32, 33] (fun w' => ∃ x : Mix.InS (fun x => x.rangeAt b (off + k * acR.n) (acR.cells a)), w' = x.w) (by kernel_rfl) (by kernel_rfl) (Mix.inS_mk (below_range (Below.refl _ _).drew hr2)) ?_
      clear hr2
      have hbd : Below wr.heap.size wr wr.drew := (Below.refl _ _).drew
      generalize wr.drew = W0 at hbd ⊢
      have HB0 := Lib.hid (HB.out.below' hbd)
      have HR0 := Lib.hid (below_range hbd HRA.out)
      refine Mix.stages_cons ?_
      simp only [Mix.pickL, List.getElem?_cons_zero, List.getElem?_cons_succ]
      repeat (first
        | go_big_quiet_skip
        | (go_big_quiet_want; first
          | (refine quiet_load_mid 24 _ rfl b (off + k * acR.n) rfl (acR.cells a) _ RC.out Try.underlying24 rfl (acOk.row a) ?_; simp only [Act.put, List.setIfInBounds_toArray, List.set_cons_succ, List.set_cons_zero]; go_big_quiet_on)
          | (go_big_quiet_op; go_big_quiet_on)))
      refine wpQuiet_nil ?_
      go_wp2_with (go_at_call 12; refine (does_any w W0 t r room c m E u HB0.out a (by omega)).mono ?_; rintro e W1 ⟨rfl, E1, u1, hE1, hB1⟩)
      have HB1 := Lib.hid hB1
      have HR1 := Lib.hid (hA.range hB1.below)
      clear hB1 hne RC
      refine Mix.onward_sub (S' := (fun x => x.rangeAt b (off + k * acR.n) (acR.cells a) ∧ Below W1.heap.size W1 x)) (fun x h => h.1) ⟨HR1.out, Below.refl _ _⟩ ?_
      have hne : Nonempty (Mix.InS (fun x => x.rangeAt b (off + k * acR.n) (acR.cells a) ∧ Below W1.heap.size W1 x)) := ⟨⟨W1, HR1.out, Below.refl _ _⟩⟩
      have RT1 := Lib.hid (fun (w' : World) (hx : ∃ x : Mix.InS (fun x => x.rangeAt b (off + k * acR.n) (acR.cells a) ∧ Below W1.heap.size W1 x), w' = x.w) => (show w'.rangeAt r 0 [.int .i64 room, u1] from by obtain ⟨z, rfl⟩ := hx; exact below_range z.h.2 HB1.out.ref.box.range))
      obtain ⟨a1, cu1, rfl⟩ := HB1.out.ref.out.lts.form
      have d1 := fun (z : Mix.InS (fun x => x.rangeAt b (off + k * acR.n) (acR.cells a) ∧ Below W1.heap.size W1 x)) => (HB1.out.ref.box.below z.h.2).get (i := 1) rfl
      have hE1L := Lib.hid (thL_length E1)
      refine Mix.stages_cons ?_
      simp only [Mix.pickL, List.getElem?_cons_zero, List.getElem?_cons_succ]
      repeat (first
        | go_big_quiet_skip
        | (go_big_quiet_want; first
          | (refine quiet_load_mid 39 _ rfl r 0 rfl [.int .i64 room, .slice a1 (thL E1).length cu1] _ RT1.out Try.underlying39 rfl tRow ?_; simp only [Act.put, List.setIfInBounds_toArray, List.set_cons_succ, List.set_cons_zero]; go_big_quiet_on)
          | (go_big_quiet_op; go_big_quiet_on)))
      refine wpQuiet_nil ?_
      go_wp2_with (go_at_call 9; refine (keys_any W1 w.heap.size t room c m E1 HB1.out.tab (by omega)).mono ?_; rintro e W2 ⟨v2, rfl, hb2, hO2⟩)
      have HO2 := Lib.hid hO2
      clear hO2
      refine Mix.onward_in (S := (fun x => x.rangeAt b (off + k * acR.n) (acR.cells a) ∧ Below W1.heap.size W1 x)) ⟨below_range hb2 HR1.out, hb2⟩ ?_
      refine Mix.stages_cons ?_
      simp only [Mix.pickL, List.getElem?_cons_zero, List.getElem?_cons_succ]
      refine wpQuiet_nil ?_
      go_wp2_with (go_at_call 13; refine (rkeys_any W2 room _ (thL E1) (HB1.out.ref.below hb2).out.lts (by rw [hE1L.out]; omega)).mono ?_; rintro e W3 ⟨v3, rfl, hb3, hO3⟩)
      rw [thL_keys] at hO3
      have HO3 := Lib.hid hO3
      clear hO3
      have hb13 := bthen' hb2 hb3
      refine Mix.onward_in (S := (fun x => x.rangeAt b (off + k * acR.n) (acR.cells a) ∧ Below W1.heap.size W1 x)) ⟨below_range hb13 HR1.out, hb13⟩ ?_
      refine Mix.stages_cons ?_
      simp only [Mix.pickL, List.getElem?_cons_zero, List.getElem?_cons_succ]
      refine wpQuiet_nil ?_
      go_wp2_with (go_at_call 11; refine (texts_any _ _ _ _ _ ((HO2.out.lts strOk).below hb3) (HO3.out.lts strOk) (by rw [List.length_map]; omega)).mono ?_; rintro e W4 ⟨rfl, hb4⟩)
      have hb14 := bthen' hb13 hb4
      refine Mix.onward_in (S := (fun x => x.rangeAt b (off + k * acR.n) (acR.cells a) ∧ Below W1.heap.size W1 x)) ⟨below_range hb14 HR1.out, hb14⟩ ?_
      refine Mix.stages_cons ?_
      simp only [Mix.pickL, List.getElem?_cons_zero, List.getElem?_cons_succ]
      repeat (first
        | go_big_quiet_skip
        | (go_big_quiet_want; first
          | (refine quiet_load_mid 39 _ rfl r 0 rfl [.int .i64 room, .slice a1 (thL E1).length cu1] _ RT1.out Try.underlying39 rfl tRow ?_; simp only [Act.put, List.setIfInBounds_toArray, List.set_cons_succ, List.set_cons_zero]; go_big_quiet_on)
          | (go_big_quiet_op; go_big_quiet_on)))
      refine wpQuiet_nil ?_
      have HB4 := Lib.hid (HB1.out.below' hb14)
      go_wp2_with (go_at_call 14; refine (len_any W4 w.heap.size t room c m E1 HB4.out.tab).mono ?_; rintro e w' ⟨rfl, rfl⟩)
      refine Mix.onward_in (S := (fun x => x.rangeAt b (off + k * acR.n) (acR.cells a) ∧ Below W1.heap.size W1 x)) ⟨below_range hb14 HR1.out, hb14⟩ ?_
      have hlb : (((E1.length : Nat) : Int) != (((thL E1).length : Nat) : Int)) = false := by rw [hE1L.out]; simp
      refine Mix.stages_cons ?_
      simp only [Mix.pickL, List.getElem?_cons_zero, List.getElem?_cons_succ]
      repeat (first
        | go_big_quiet_skip
        | (go_big_quiet_want; (go_big_quiet_op; go_big_quiet_on)))
      refine wpQuiet_nil ?_
      go_wp2_with (go_at_call 14; refine (len_any W4 w.heap.size t room c m E1 HB4.out.tab).mono ?_; rintro e w' ⟨rfl, rfl⟩)
      refine Mix.onward_in (S := (fun x => x.rangeAt b (off + k * acR.n) (acR.cells a) ∧ Below W1.heap.size W1 x)) ⟨below_range hb14 HR1.out, hb14⟩ ?_
      have hfit := HB4.out.fits
      refine Mix.stages_nil ?_
      simp only [Mix.pickL, List.getElem?_cons_zero, List.getElem?_cons_succ]
      repeat (first
        | go_big_quiet_skip
        | (go_big_quiet_want; (go_big_quiet_op; go_big_quiet_on)))
      refine wpQuiet_nil ?_
      clear d1 hne
      go_wp2_with fail
      go_roundw
      case rel => exact ⟨k + 1, E1, _, by omega, by omega, by go_num, HB4.out⟩
      case measure => simp [intOf]; omega
    · obtain rfl : k = A.length := by omega
      go_wp2_with (go_at_call 7; refine (live12_any _).mono ?_; rintro e W9 ⟨rfl, hb9⟩)
      go_ret
      exact ⟨rfl, bthen' hB.below hb9⟩

theorem lruActs_of (w : World) (room : Int) (v : Value) (A : List Ac) (hv : Reads acR w v A) : Calls Try.prog 4 #[.int .i64 room, v] w fun e w' => e = .returned (.bool true) ∧ Below w.heap.size w w' := by
  by_cases h1 : 200 < A.length ∨ room < 1
  · exact lruActs_far w room v A hv h1
  · exact lruActs_yes w room v A hv (by omega) (by omega)

end Go.Proofs.Ytnfcpknepnifgaa

