/- What a call does, to both. (Printed by a program of mine.) -/
import Derived.Test.YtnfcpknepnifgaaLruBoth
set_option linter.unusedVariables false
namespace Go.Proofs.Ytnfcpknepnifgaa
open Go.RowKit

set_option maxRecDepth 100000 in
set_option maxHeartbeats 8000000 in
theorem does_peek (w W : World) (t r : Nat) (room : Int) (c m : Nat) (E : List (Ent Int)) (u : Value) (h : Both w W t r room c m E u) (a : Ac) (ha : a.kind = 2) (hbig : E.length < 10000) :
    Calls Try.prog 12 #[.pointer (some ⟨t, 0, none⟩), .pointer (some ⟨r, 0, none⟩), .agg (acR.cells a).toArray] W (DoesGives w t r room c m E.length) := by
  have hb0 : Below W.heap.size W (W.alloc (.cells (acR.cells a).toArray 24)) := (Below.refl _ _).alloc (Nat.le_refl _) _
  have hr0 : (W.alloc (.cells (acR.cells a).toArray 24)).rangeAt W.heap.size 0 (acR.cells a) := fun j v hv => by
    rw [cell_of_row _ W.heap.size (0 + j) _ 24 (0, 0) (heap_alloc_new _ _)]
    simpa using hv
  obtain ⟨W0, hW0⟩ : ∃ W0, W0 = W.alloc (.cells (acR.cells a).toArray 24) := ⟨_, rfl⟩
  rw [← hW0] at hb0 hr0
  have HB0 := Lib.hid (h.below' hb0)
  have HR0 := Lib.hid hr0
  obtain ⟨n0, n1, n2⟩ := ac_parts hr0
  have hnF : W.heap.size ∉ tF TE t c m E := fun hin => Nat.lt_irrefl _ (h.tab.low _ hin).2
  have hnr : W.heap.size ≠ r := fun e => by have := h.ref.lt; omega
  have hkb : (a.kind == 0) = false := by simp [ha]
  have hkb1 : (a.kind == 1) = false := by simp [ha]
  have hkb2 : (a.kind == 2) = true := by simp [ha]
  clear h hr0 ha
  rcases key_or E a.key with ⟨i, x, hx, hxk⟩ | hno
  · have KT := peek_yes W0 w.heap.size t room c m E HB0.out.tab i x hx
    have KR := fun (W1 : World) (hb : Below W0.heap.size W0 W1) => rpeek_yes W1 w.heap.size r room u (thL E) (HB0.out.ref.below hb) i _ (thL_at hx) (by rw [thL_keys]; exact HB0.out.tab.keys)
    rw [hxk] at KT
    simp only [hxk] at KR
    have KT := Lib.hid KT
    have KR := Lib.hid KR
    clear hx hxk
    go_enter Try.func12, Try.ntmps12
    go_upto_region 1 with fail
    show Code.wp _ _ _ _ (W.alloc (.cells (acR.cells a).toArray 24))
    rw [← hW0]
    clear hW0
    go_upto_region 12 with (go_at_call 10; refine KT.out.mono ?_; rintro e w' ⟨rfl, rfl⟩)
    have d1 := fun (z : Later W0) => (ac_parts (below_range z.h HR0.out)).2.1
    have RC := Lib.hid (fun (w' : World) (hx : ∃ x : Later W0, w' = x.w) => (show w'.rangeAt r 0 [.int .i64 room, u] from by obtain ⟨z, rfl⟩ := hx; exact below_range z.h HB0.out.ref.box.range))
    refine Mix.wp_region_mix [([0, 1, 2, 3, 4], 5)] [6, 7, 8, 9, 10] (fun w' => ∃ x : Later W0, w' = x.w) (by kernel_rfl) (by kernel_rfl) (Mix.later_drew W0) ?_
    have hbd : Below W0.heap.size W0 W0.drew := (Below.refl _ _).drew
    generalize W0.drew = W1 at hbd ⊢
    refine Mix.stages_cons ?_
    simp only [Mix.pickL, List.getElem?_cons_zero, List.getElem?_cons_succ]
    repeat (first
      | go_big_quiet_skip
      | (go_big_quiet_want; first
        | (refine quiet_load_mid 39 _ rfl r 0 rfl [.int .i64 room, u] _ RC.out Try.underlying39 rfl tRow ?_; simp only [Act.put, List.setIfInBounds_toArray, List.set_cons_succ, List.set_cons_zero]; go_big_quiet_on)
        | (go_big_quiet_op; go_big_quiet_on)))
    refine wpQuiet_nil ?_
    go_wp2_with (go_at_call 25; refine (KR.out _ hbd).mono ?_; rintro e W2 ⟨rfl, hb2⟩)
    refine Mix.onward_normal (bthen' hbd hb2) ?_
    clear d1 RC
    refine Mix.stages_nil ?_
    simp only [Mix.pickL, List.getElem?_cons_zero, List.getElem?_cons_succ]
    repeat (first
      | go_big_quiet_skip
      | (go_big_quiet_want; (go_big_quiet_op; go_big_quiet_on)))
    refine wpQuiet_nil ?_
    go_wp2_with fail
    go_ret
    exact ⟨rfl, E, u, by omega, HB0.out.below' (bthen' hbd hb2)⟩
  · have KT := Lib.hid (peek_no W0 w.heap.size t room c m E HB0.out.tab a.key hno)
    have KR := Lib.hid (fun (W1 : World) (hb : Below W0.heap.size W0 W1) => rpeek_no W1 w.heap.size r room u (thL E) (HB0.out.ref.below hb) a.key (thL_none hno))
    clear hno
    go_enter Try.func12, Try.ntmps12
    go_upto_region 1 with fail
    show Code.wp _ _ _ _ (W.alloc (.cells (acR.cells a).toArray 24))
    rw [← hW0]
    clear hW0
    go_upto_region 12 with (go_at_call 10; refine KT.out.mono ?_; rintro e w' ⟨rfl, rfl⟩)
    have d1 := fun (z : Later W0) => (ac_parts (below_range z.h HR0.out)).2.1
    have RC := Lib.hid (fun (w' : World) (hx : ∃ x : Later W0, w' = x.w) => (show w'.rangeAt r 0 [.int .i64 room, u] from by obtain ⟨z, rfl⟩ := hx; exact below_range z.h HB0.out.ref.box.range))
    refine Mix.wp_region_mix [([0, 1, 2, 3, 4], 5)] [6, 7, 8, 9, 10] (fun w' => ∃ x : Later W0, w' = x.w) (by kernel_rfl) (by kernel_rfl) (Mix.later_drew W0) ?_
    have hbd : Below W0.heap.size W0 W0.drew := (Below.refl _ _).drew
    generalize W0.drew = W1 at hbd ⊢
    refine Mix.stages_cons ?_
    simp only [Mix.pickL, List.getElem?_cons_zero, List.getElem?_cons_succ]
    repeat (first
      | go_big_quiet_skip
      | (go_big_quiet_want; first
        | (refine quiet_load_mid 39 _ rfl r 0 rfl [.int .i64 room, u] _ RC.out Try.underlying39 rfl tRow ?_; simp only [Act.put, List.setIfInBounds_toArray, List.set_cons_succ, List.set_cons_zero]; go_big_quiet_on)
        | (go_big_quiet_op; go_big_quiet_on)))
    refine wpQuiet_nil ?_
    go_wp2_with (go_at_call 25; refine (KR.out _ hbd).mono ?_; rintro e W2 ⟨rfl, hb2⟩)
    refine Mix.onward_normal (bthen' hbd hb2) ?_
    clear d1 RC
    refine Mix.stages_nil ?_
    simp only [Mix.pickL, List.getElem?_cons_zero, List.getElem?_cons_succ]
    repeat (first
      | go_big_quiet_skip
      | (go_big_quiet_want; (go_big_quiet_op; go_big_quiet_on)))
    refine wpQuiet_nil ?_
    go_wp2_with fail
    go_ret
    exact ⟨rfl, E, u, by omega, HB0.out.below' (bthen' hbd hb2)⟩

set_option maxRecDepth 100000 in
set_option maxHeartbeats 8000000 in
theorem does_drop (w W : World) (t r : Nat) (room : Int) (c m : Nat) (E : List (Ent Int)) (u : Value) (h : Both w W t r room c m E u) (a : Ac) (ha : a.kind ≠ 0 ∧ a.kind ≠ 1 ∧ a.kind ≠ 2) (hbig : E.length < 10000) :
    Calls Try.prog 12 #[.pointer (some ⟨t, 0, none⟩), .pointer (some ⟨r, 0, none⟩), .agg (acR.cells a).toArray] W (DoesGives w t r room c m E.length) := by
  have hb0 : Below W.heap.size W (W.alloc (.cells (acR.cells a).toArray 24)) := (Below.refl _ _).alloc (Nat.le_refl _) _
  have hr0 : (W.alloc (.cells (acR.cells a).toArray 24)).rangeAt W.heap.size 0 (acR.cells a) := fun j v hv => by
    rw [cell_of_row _ W.heap.size (0 + j) _ 24 (0, 0) (heap_alloc_new _ _)]
    simpa using hv
  obtain ⟨W0, hW0⟩ : ∃ W0, W0 = W.alloc (.cells (acR.cells a).toArray 24) := ⟨_, rfl⟩
  rw [← hW0] at hb0 hr0
  have HB0 := Lib.hid (h.below' hb0)
  have HR0 := Lib.hid hr0
  obtain ⟨n0, n1, n2⟩ := ac_parts hr0
  have hnF : W.heap.size ∉ tF TE t c m E := fun hin => Nat.lt_irrefl _ (h.tab.low _ hin).2
  have hnr : W.heap.size ≠ r := fun e => by have := h.ref.lt; omega
  have hkb : (a.kind == 0) = false := by simp [ha.1]
  have hkb1 : (a.kind == 1) = false := by simp [ha.2.1]
  have hkb2 : (a.kind == 2) = false := by simp [ha.2.2]
  clear h hr0 ha
  rcases key_or E a.key with ⟨i, x, hx, hxk⟩ | hno
  · have KT := fun (W1 : World) (hT : TabI w.heap.size W1 t room c m E) => drop_yes W1 w.heap.size t room c m E hT i x hx
    have hil := (List.getElem?_eq_some_iff.1 hx).1
    have KR := fun (W1 : World) (hR : RT w.heap.size W1 r room u (thL E)) => rdrop_yes W1 w.heap.size r room u (thL E) hR i _ (thL_at hx) (by rw [thL_keys]; exact HB0.out.tab.keys)
    rw [hxk] at KT
    simp only [hxk] at KR
    have KT := Lib.hid KT
    have KR := Lib.hid KR
    clear hx hxk
    go_enter Try.func12, Try.ntmps12
    go_upto_region 1 with fail
    show Code.wp _ _ _ _ (W.alloc (.cells (acR.cells a).toArray 24))
    rw [← hW0]
    clear hW0
    go_upto_region 14 with fail
    have hne : Nonempty (Mix.InS (fun x => x.rangeAt W.heap.size 0 (acR.cells a))) := ⟨⟨W0, HR0.out⟩⟩
    have d1 := fun (z : Mix.InS (fun x => x.rangeAt W.heap.size 0 (acR.cells a))) => (ac_parts z.h).2.1
    refine Mix.wp_region_mix [([0, 1, 2, 4, 5, 6], 3), ([], 7)] [8, 9] (fun w' => ∃ x : Mix.InS (fun x => x.rangeAt W.heap.size 0 (acR.cells a)), w' = x.w) (by kernel_rfl) (by kernel_rfl) (Mix.inS_mk (below_range (Below.refl _ _).drew HR0.out)) ?_
    have hbd : Below W0.heap.size W0 W0.drew := (Below.refl _ _).drew
    generalize W0.drew = W1 at hbd ⊢
    have HB1 := Lib.hid (HB0.out.below' hbd)
    have HR1 := Lib.hid (below_range hbd HR0.out)
    refine Mix.stages_cons ?_
    simp only [Mix.pickL, List.getElem?_cons_zero, List.getElem?_cons_succ]
    repeat (first
      | go_big_quiet_skip
      | (go_big_quiet_want; (go_big_quiet_op; go_big_quiet_on)))
    refine wpQuiet_nil ?_
    go_wp2_with (go_at_call 16; refine (KT.out _ HB1.out.tab).mono ?_; rintro e W2 ⟨rfl, hu2, hT2⟩)
    have HR2 := Lib.hid (hu2.range hnF HR1.out)
    refine Mix.onward_in HR2.out ?_
    refine Mix.stages_cons ?_
    simp only [Mix.pickL, List.getElem?_cons_zero, List.getElem?_cons_succ]
    refine wpQuiet_nil ?_
    go_wp2_with (go_at_call 26; refine (KR.out _ (HB1.out.table hu2).2).mono ?_; rintro e W3 ⟨rfl, hu3, u3, hR3, hA3⟩)
    refine Mix.onward_in (hu3.range (by simpa using hnr) HR2.out) ?_
    refine Mix.stages_nil ?_
    simp only [Mix.pickL, List.getElem?_cons_zero, List.getElem?_cons_succ]
    repeat (first
      | go_big_quiet_skip
      | (go_big_quiet_want; (go_big_quiet_op; go_big_quiet_on)))
    refine wpQuiet_nil ?_
    clear d1 hne
    go_wp2_with fail
    go_ret
    rw [← thL_erase] at hR3 hA3
    exact ⟨rfl, _, u3, by rw [List.length_eraseIdx_of_lt hil]; omega, Both.turn (HB1.out.table hu2).1 hT2 (HB1.out.table hu2).2 hu3 hR3 hA3 (by have := HB1.out.fits; rw [List.length_eraseIdx_of_lt hil]; omega)⟩
  · have KT := Lib.hid (fun (W1 : World) (hT : TabI w.heap.size W1 t room c m E) => drop_no W1 w.heap.size t room c m E hT a.key hno)
    have KR := Lib.hid (fun (W1 : World) (hR : RT w.heap.size W1 r room u (thL E)) => rdrop_no W1 w.heap.size r room u (thL E) hR a.key (thL_none hno))
    clear hno
    go_enter Try.func12, Try.ntmps12
    go_upto_region 1 with fail
    show Code.wp _ _ _ _ (W.alloc (.cells (acR.cells a).toArray 24))
    rw [← hW0]
    clear hW0
    go_upto_region 14 with fail
    have hne : Nonempty (Mix.InS (fun x => x.rangeAt W.heap.size 0 (acR.cells a))) := ⟨⟨W0, HR0.out⟩⟩
    have d1 := fun (z : Mix.InS (fun x => x.rangeAt W.heap.size 0 (acR.cells a))) => (ac_parts z.h).2.1
    refine Mix.wp_region_mix [([0, 1, 2, 4, 5, 6], 3), ([], 7)] [8, 9] (fun w' => ∃ x : Mix.InS (fun x => x.rangeAt W.heap.size 0 (acR.cells a)), w' = x.w) (by kernel_rfl) (by kernel_rfl) (Mix.inS_mk (below_range (Below.refl _ _).drew HR0.out)) ?_
    have hbd : Below W0.heap.size W0 W0.drew := (Below.refl _ _).drew
    generalize W0.drew = W1 at hbd ⊢
    have HB1 := Lib.hid (HB0.out.below' hbd)
    have HR1 := Lib.hid (below_range hbd HR0.out)
    refine Mix.stages_cons ?_
    simp only [Mix.pickL, List.getElem?_cons_zero, List.getElem?_cons_succ]
    repeat (first
      | go_big_quiet_skip
      | (go_big_quiet_want; (go_big_quiet_op; go_big_quiet_on)))
    refine wpQuiet_nil ?_
    go_wp2_with (go_at_call 16; refine (KT.out _ HB1.out.tab).mono ?_; rintro e w' ⟨rfl, rfl⟩)
    refine Mix.onward_in HR1.out ?_
    refine Mix.stages_cons ?_
    simp only [Mix.pickL, List.getElem?_cons_zero, List.getElem?_cons_succ]
    refine wpQuiet_nil ?_
    go_wp2_with (go_at_call 26; refine (KR.out _ HB1.out.ref).mono ?_; rintro e W3 ⟨rfl, hb3⟩)
    refine Mix.onward_in (below_range hb3 HR1.out) ?_
    refine Mix.stages_nil ?_
    simp only [Mix.pickL, List.getElem?_cons_zero, List.getElem?_cons_succ]
    repeat (first
      | go_big_quiet_skip
      | (go_big_quiet_want; (go_big_quiet_op; go_big_quiet_on)))
    refine wpQuiet_nil ?_
    clear d1 hne
    go_wp2_with fail
    go_ret
    exact ⟨rfl, E, u, by omega, HB1.out.below' hb3⟩

theorem does_any (w W : World) (t r : Nat) (room : Int) (c m : Nat) (E : List (Ent Int)) (u : Value) (h : Both w W t r room c m E u) (a : Ac) (hbig : E.length < 10000) :
    Calls Try.prog 12 #[.pointer (some ⟨t, 0, none⟩), .pointer (some ⟨r, 0, none⟩), .agg (acR.cells a).toArray] W (DoesGives w t r room c m E.length) := by
  by_cases h0 : a.kind = 0
  · exact does_put w W t r room c m E u h a h0 hbig
  · by_cases h1 : a.kind = 1
    · exact does_get w W t r room c m E u h a h1 hbig
    · by_cases h2 : a.kind = 2
      · exact does_peek w W t r room c m E u h a h2 hbig
      · exact does_drop w W t r room c m E u h a ⟨h0, h1, h2⟩ hbig

end Go.Proofs.Ytnfcpknepnifgaa

