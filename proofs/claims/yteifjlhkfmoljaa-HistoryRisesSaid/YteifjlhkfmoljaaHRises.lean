/- A greater percentage never tells a lower class; the walk of the statement. (Printed by genhrises.py.) -/
import Derived.Test.YteifjlhkfmoljaaHOpen
set_option linter.unusedVariables false
namespace Go.Proofs.Yteifjlhkfmoljaa
open Go.RowKit

theorem qs_parts {w : World} {b : Nat} {q : Qs} (h : w.rangeAt b 0 q.cells) : w.cell? ⟨b, 0, none⟩ = some (.string q.key) ∧ w.cell? ⟨b, 1, none⟩ = some q.lv ∧ w.cell? ⟨b, 2, none⟩ = some (.int .i64 q.p) :=
  ⟨by simpa using h 0 _ rfl, by simpa using h 1 _ rfl, by simpa using h 2 _ rfl⟩

/-- A run in memory that was there. -/
structure RnAt (w : World) (b o : Nat) (a : Rn) : Prop where
  h : w.rangeAt b o (rnR.cells a)
theorem RnAt.range {w w' : World} {b o : Nat} {a : Rn} (h : RnAt w b o a) (hb : Below w.heap.size w w') : w'.rangeAt b o (rnR.cells a) := below_range hb h.h
open HistLaw in
theorem cls_nat (v : Hs) (L : List Int) (p : Int) : ∃ ai : Nat, clsV v L p = (ai : Int) ∧ (plcOk v.1 p = true → ∀ n, L[ai]? = some n → ofv v p ≤ max n 0) := by
  unfold clsV
  cases hp : plcOk v.1 p with
  | false => exact ⟨0, by simp, fun h => by cases h⟩
  | true =>
    refine ⟨idx (ofv v p) L, by simp, fun _ n hn => ?_⟩
    obtain ⟨m, hm, hle⟩ := idx_at (List.getElem?_eq_some_iff.1 hn).1
    rw [hn] at hm
    cases hm
    exact hle

set_option maxRecDepth 100000 in
set_option maxHeartbeats 1000000 in
theorem rises_far (w : World) (v : Value) (A : List Rn) (q : Qs) (more : Int) (hv : Reads rnR w v A) (hq : q.In w) (h : 100 < A.length ∨ 20 < q.L.length ∨ more < q.p ∨ 100 < more ∨ q.p < 1) :
    Calls Try.prog 3 #[v, .agg q.cells.toArray, .int .i64 more] w fun e w' => e = .returned (.bool true) ∧ Below w.heap.size w w' := by
  obtain ⟨av, capv, rfl⟩ := hv.form
  obtain ⟨key, lv, L, p⟩ := q
  obtain ⟨hlim, hbdL⟩ := hq
  simp only at hlim hbdL
  obtain ⟨al, cl, rfl⟩ := hlim.form
  have hb0 : Below w.heap.size w (w.alloc (.cells (Qs.cells ⟨key, .slice al L.length cl, L, p⟩).toArray 25)) := (Below.refl _ _).alloc (Nat.le_refl _) _
  have hr0 : (w.alloc (.cells (Qs.cells ⟨key, .slice al L.length cl, L, p⟩).toArray 25)).rangeAt w.heap.size 0 (Qs.cells ⟨key, .slice al L.length cl, L, p⟩) := fun j v hv => by
    rw [cell_of_row _ w.heap.size (0 + j) _ 25 (0, 0) (heap_alloc_new _ _)]
    simpa using hv
  obtain ⟨W0, hW0⟩ : ∃ W0, W0 = (w.alloc (.cells (Qs.cells ⟨key, .slice al L.length cl, L, p⟩).toArray 25)) := ⟨_, rfl⟩
  rw [← hW0] at hb0 hr0
  have HV := Lib.hid (hv.below hb0)
  have HB0 := Lib.hid hb0
  have HQ := Lib.hid hr0
  have HL := Lib.hid (hlim.below hb0)
  have HI := Lib.hid hbdL
  obtain ⟨n0, n1, n2⟩ := qs_parts hr0
  clear hv hb0 hr0 hlim hbdL
  simp only at h
  by_cases c1 : 100 < A.length
  · clear h
    go_enter Try.func3, Try.ntmps3
    go_upto_region 1 with fail
    show Code.wp _ _ _ _ (w.alloc (.cells (Qs.cells ⟨key, .slice al L.length cl, L, p⟩).toArray 25))
    rw [← hW0]
    clear hW0
    go_wp2_with (go_at_call 6; refine (live13_any _).mono ?_; rintro e W2 ⟨rfl, hb2⟩)
    go_ret
    exact ⟨rfl, bthen' HB0.out hb2⟩
  · by_cases c2 : 20 < L.length
    · clear h
      go_enter Try.func3, Try.ntmps3
      go_upto_region 1 with fail
      show Code.wp _ _ _ _ (w.alloc (.cells (Qs.cells ⟨key, .slice al L.length cl, L, p⟩).toArray 25))
      rw [← hW0]
      clear hW0
      go_wp2_with (go_at_call 6; refine (live13_any _).mono ?_; rintro e W2 ⟨rfl, hb2⟩)
      go_ret
      exact ⟨rfl, bthen' HB0.out hb2⟩
    · by_cases c3 : more < p
      · clear h
        go_enter Try.func3, Try.ntmps3
        go_upto_region 1 with fail
        show Code.wp _ _ _ _ (w.alloc (.cells (Qs.cells ⟨key, .slice al L.length cl, L, p⟩).toArray 25))
        rw [← hW0]
        clear hW0
        go_wp2_with (go_at_call 6; refine (live13_any _).mono ?_; rintro e W2 ⟨rfl, hb2⟩)
        go_ret
        exact ⟨rfl, bthen' HB0.out hb2⟩
      · by_cases c4 : 100 < more
        · clear h
          go_enter Try.func3, Try.ntmps3
          go_upto_region 1 with fail
          show Code.wp _ _ _ _ (w.alloc (.cells (Qs.cells ⟨key, .slice al L.length cl, L, p⟩).toArray 25))
          rw [← hW0]
          clear hW0
          go_wp2_with (go_at_call 6; refine (live13_any _).mono ?_; rintro e W2 ⟨rfl, hb2⟩)
          go_ret
          exact ⟨rfl, bthen' HB0.out hb2⟩
        · by_cases c5 : p < 1
          · clear h
            go_enter Try.func3, Try.ntmps3
            go_upto_region 1 with fail
            show Code.wp _ _ _ _ (w.alloc (.cells (Qs.cells ⟨key, .slice al L.length cl, L, p⟩).toArray 25))
            rw [← hW0]
            clear hW0
            go_wp2_with (go_at_call 6; refine (live13_any _).mono ?_; rintro e W2 ⟨rfl, hb2⟩)
            go_ret
            exact ⟨rfl, bthen' HB0.out hb2⟩
          · omega

set_option maxRecDepth 100000 in
set_option maxHeartbeats 2000000 in
theorem rises_yes (w : World) (v : Value) (A : List Rn) (q : Qs) (more : Int) (hv : Reads rnR w v A) (hA : ∀ a ∈ A, inU a) (hq : q.In w) (c1 : A.length ≤ 100) (c2 : q.L.length ≤ 20) (c3 : q.p ≤ more) (c4 : more ≤ 100) (c5 : 1 ≤ q.p) :
    Calls Try.prog 3 #[v, .agg q.cells.toArray, .int .i64 more] w fun e w' => e = .returned (.bool true) ∧ Below w.heap.size w w' := by
  obtain ⟨av, capv, rfl⟩ := hv.form
  obtain ⟨key, lv, L, p⟩ := q
  obtain ⟨hlim, hbdL⟩ := hq
  simp only at hlim hbdL
  obtain ⟨al, cl, rfl⟩ := hlim.form
  have hb0 : Below w.heap.size w (w.alloc (.cells (Qs.cells ⟨key, .slice al L.length cl, L, p⟩).toArray 25)) := (Below.refl _ _).alloc (Nat.le_refl _) _
  have hr0 : (w.alloc (.cells (Qs.cells ⟨key, .slice al L.length cl, L, p⟩).toArray 25)).rangeAt w.heap.size 0 (Qs.cells ⟨key, .slice al L.length cl, L, p⟩) := fun j v hv => by
    rw [cell_of_row _ w.heap.size (0 + j) _ 25 (0, 0) (heap_alloc_new _ _)]
    simpa using hv
  obtain ⟨W0, hW0⟩ : ∃ W0, W0 = (w.alloc (.cells (Qs.cells ⟨key, .slice al L.length cl, L, p⟩).toArray 25)) := ⟨_, rfl⟩
  rw [← hW0] at hb0 hr0
  have HV := Lib.hid (hv.below hb0)
  have HB0 := Lib.hid hb0
  have HQ := Lib.hid hr0
  have HL := Lib.hid (hlim.below hb0)
  have HI := Lib.hid hbdL
  obtain ⟨n0, n1, n2⟩ := qs_parts hr0
  clear hv hb0 hr0 hlim hbdL
  simp only at c2 c3 c5
  go_enter Try.func3, Try.ntmps3
  go_upto_region 1 with fail
  show Code.wp _ _ _ _ (w.alloc (.cells (Qs.cells ⟨key, .slice al L.length cl, L, p⟩).toArray 25))
  rw [← hW0]
  clear hW0
  go_upto_block 0 with fail
  go_cut [7] (fun _ wr => Below W0.heap.size W0 wr)
  case first =>
    go_wp2_with fail
    go_loopw [7] (fun i wr => ∃ k : Nat, k ≤ L.length ∧ i = .int .i64 ((k : Int) + 1) ∧ Below W0.heap.size W0 wr) (fun i _ => L.length + 1 - (intOf i).toNat)
    case atStart => exact ⟨0, by omega, rfl, Below.refl _ _⟩
    case round =>
      obtain ⟨k, hk, rfl, hW⟩ := hrel
      have HW := Lib.hid hW
      obtain ⟨-, n1, -⟩ := qs_parts (below_range hW HQ.out)
      clear hW
      by_cases hlt : k + 1 < L.length
      · obtain ⟨x, hx⟩ : ∃ x, L[k]? = some x := ⟨_, List.getElem?_eq_getElem (by omega)⟩
        obtain ⟨y, hy⟩ : ∃ y, L[k + 1]? = some y := ⟨_, List.getElem?_eq_getElem hlt⟩
        obtain ⟨b, o, rfl, r1⟩ := (HL.out.below HW.out).at hx
        obtain ⟨b2, o2, e2, r2⟩ := (HL.out.below HW.out).at hy
        obtain ⟨rfl, rfl⟩ : b = b2 ∧ o = o2 := by simpa using e2
        have d0 := fun (z : Later wr) => z.cell n1
        have d1 := fun (z : Later wr) => z.cell (show wr.cell? ⟨b, o + k, none⟩ = some (.int .i64 x) from by have := r1 0 _ rfl; simpa [intR] using this)
        have d2 := fun (z : Later wr) => z.cell (show wr.cell? ⟨b, o + (k + 1), none⟩ = some (.int .i64 y) from by have := r2 0 _ rfl; simpa [intR] using this)
        clear r1 r2 hx hy e2
        go_upto_region 6 with fail
        refine wp_region_later (by kernel_rfl) (by kernel_rfl) (Below.refl _ _) ?_
        repeat (first
          | go_big_quiet_skip
          | (go_big_quiet_want; (go_big_quiet_op; go_big_quiet_on)))
        refine wpQuiet_nil ?_
        rintro ⟨W8, hb8⟩
        dsimp only
        clear d0 d1 d2
        by_cases hyx : y ≤ x
        · go_wp2_with (go_at_call 6; refine (live13_any _).mono ?_; rintro e W9 ⟨rfl, hb9⟩)
          go_ret
          exact ⟨rfl, bthen' HB0.out (bthen' HW.out (bthen' hb8 hb9))⟩
        · go_wp2_with fail
          go_roundw
          case rel => exact ⟨k + 1, by omega, by go_num, bthen' HW.out hb8⟩
          case measure => simp [intOf]; omega
      · go_wp2_with fail
        go_meet
        exact HW.out
  case rest =>
    have HW1 := Lib.hid hcut
    clear hcut n0 n1 n2
    go_upto_block 2 with (go_at_call 7; refine (hnew_any wc 8 (by omega)).mono ?_; rintro e W1 ⟨h, t, c, m, rfl, hb1, hH1⟩)
    have hB0 : W0.heap.size ≤ wc.heap.size := HW1.out.size
    have hW1 : Below W0.heap.size W0 W1 := bthen' HW1.out hb1
    have hBs : wc.heap.size ≤ W1.heap.size := hb1.size
    clear hb1 HW1
    obtain ⟨B, hB⟩ : ∃ B, B = wc.heap.size := ⟨_, rfl⟩
    rw [← hB] at hH1 hBs hB0
    clear hB
    go_cut [9] (fun _ wr => ∃ E, E.length ≤ 100 ∧ Below W0.heap.size W0 wr ∧ HTab B wr h t 8 c m E)
    case first =>
      go_wp2_with fail
      go_loopw [9] (fun i wr => ∃ (k : Nat) (E : List (Ent Hs)), k ≤ A.length ∧ E.length ≤ k ∧ i = .int .i64 k ∧ Below W0.heap.size W0 wr ∧ B ≤ wr.heap.size ∧ HTab B wr h t 8 c m E) (fun i _ => A.length - (intOf i).toNat)
      case atStart => exact ⟨0, [], by omega, by simp, rfl, hW1, hBs, hH1⟩
      case round =>
        clear hW1 hBs hH1
        obtain ⟨k, E, hk, hE, rfl, hW, hBw, hK⟩ := hrel
        have HK := Lib.hid hK
        have HW := Lib.hid hW
        by_cases hlt : k < A.length
        · obtain ⟨a, ha⟩ : ∃ a, A[k]? = some a := ⟨_, List.getElem?_eq_getElem hlt⟩
          obtain ⟨b, off, rfl, hr2⟩ := (HV.out.below hW).at ha
          obtain ⟨b9, off9, e9, hA9⟩ := HV.out.at ha
          obtain ⟨rfl, rfl⟩ : b = b9 ∧ off = off9 := by simpa using e9
          have hA1 : RnAt W0 b (off + k * rnR.n) a := ⟨hA9⟩
          have hu := Lib.hid (hA a (List.mem_of_getElem? ha))
          clear ha hK hA9 e9 hW
          go_upto_region 12 with fail
          have hne : Nonempty (Mix.InS (fun x => x.rangeAt b (off + k * rnR.n) (rnR.cells a))) := ⟨⟨wr, hr2⟩⟩
          have HRA := Lib.hid hr2
          have d1 := fun (z : Mix.InS (fun x => x.rangeAt b (off + k * rnR.n) (rnR.cells a))) => (show z.w.cell? ⟨b, off + k * 2, none⟩ = some (.string a.key) from (rn_parts z.h).1)
          have d2 := fun (z : Mix.InS (fun x => x.rangeAt b (off + k * rnR.n) (rnR.cells a))) => (show z.w.cell? ⟨b, off + k * 2 + 1, none⟩ = some (.int .u64 a.x) from (rn_parts z.h).2)
          refine Mix.wp_region_mix [([0, 1, 2, 3, 4, 5, 6, 7, 8, 9, 10], 11)] [] (fun w' => ∃ x : Mix.InS (fun x => x.rangeAt b (off + k * rnR.n) (rnR.cells a)), w' = x.w) (by kernel_rfl) (by kernel_rfl) (Mix.inS_mk (below_range (Below.refl _ _).drew hr2)) ?_
          clear hr2
          have hbd : Below wr.heap.size wr wr.drew := (Below.refl _ _).drew
          generalize wr.drew = W2 at hbd ⊢
          have HK2 := Lib.hid (HK.out.below hbd)
          have HW2 := Lib.hid (bthen' HW.out hbd)
          refine Mix.stages_cons ?_
          simp only [Mix.pickL, List.getElem?_cons_zero, List.getElem?_cons_succ]
          repeat (first
            | go_big_quiet_skip
            | (go_big_quiet_want; (go_big_quiet_op; go_big_quiet_on)))
          refine wpQuiet_nil ?_
          go_wp2_with (go_at_call 8; refine (observe_any W2 B h t 8 c m E HK2.out (Nat.le_trans hBw hbd.size) (by omega) a.key a.x hu.out.1 hu.out.2 (by omega)).mono ?_; rintro e W3 ⟨rfl, E3, hu3, hK3, hl3, -⟩)
          have hW3 := hu3.toBelow HW2.out HW2.out.size (fun i hi => Nat.le_trans hB0 (HK2.out.tab.low i hi).1)
          refine Mix.onward_in (hA1.range hW3) ?_
          clear d1 d2
          refine Mix.stages_nil ?_
          simp only [Mix.pickL]
          refine wpQuiet_nil ?_
          clear hne
          go_wp2_with fail
          go_roundw
          case rel => exact ⟨k + 1, E3, by omega, by omega, by go_num, hW3, Nat.le_trans (Nat.le_trans hBw hbd.size) hu3.size, hK3⟩
          case measure => simp [intOf]; omega
        · go_wp2_with fail
          go_meet
          exact ⟨E, by omega, HW.out, HK.out⟩
    case rest =>
      clear hW1 hBs hH1
      obtain ⟨E, hE, hW, hK⟩ := hcut
      have HK := Lib.hid hK
      have HW := Lib.hid hW
      obtain ⟨n0, n1, n2⟩ := qs_parts (below_range hW HQ.out)
      have d0 := fun (z : Later wc) => z.cell n0
      have d1 := fun (z : Later wc) => z.cell n1
      have d2 := fun (z : Later wc) => z.cell n2
      obtain ⟨ai, ha, hat⟩ := cls_nat (look key (rws E)) L p
      obtain ⟨bi, hb, -⟩ := cls_nat (look key (rws E)) L more
      have hab : ai ≤ bi := by have := cls_mono (v := look key (rws E)) (L := L) c5 c3 c4; rw [ha, hb] at this; omega
      have hbl : bi ≤ L.length := by have := (cls_bd (look key (rws E)) L more).2; rw [hb] at this; omega
      have KC1 := Lib.hid (fun (W : World) (hw : Below wc.heap.size wc W) => class_eq W B h t 8 c m E (HK.out.below hw) key _ L (HL.out.below (bthen' HW.out hw)) HI.out (by omega) p ha)
      have KC2 := Lib.hid (fun (W : World) (hw : Below wc.heap.size wc W) => class_eq W B h t 8 c m E (HK.out.below hw) key _ L (HL.out.below (bthen' HW.out hw)) HI.out (by omega) more hb)
      have KE := fun (W : World) (hw : Below wc.heap.size wc W) => estimate_any W B h t 8 c m E (HK.out.below hw) key p
      clear ha hb hK hW
      generalize ofv (look key (rws E)) p = x at KE hat
      generalize HistLaw.plcOk (look key (rws E)).1 p = ok at KE hat
      have KE := Lib.hid KE
      have HAT := Lib.hid hat
      clear hat n0 n1 n2
      go_upto_region 13 with fail
      refine Mix.wp_region_mix [([0, 1, 2, 3, 4, 5, 6, 8, 9, 10, 11, 12, 13], 7), ([], 14)] [15, 16] (fun w' => ∃ x : Later wc, w' = x.w) (by kernel_rfl) (by kernel_rfl) (Mix.later_drew wc) ?_
      have hbd : Below wc.heap.size wc wc.drew := (Below.refl _ _).drew
      generalize wc.drew = W2 at hbd ⊢
      refine Mix.stages_cons ?_
      simp only [Mix.pickL, List.getElem?_cons_zero, List.getElem?_cons_succ]
      repeat (first
        | go_big_quiet_skip
        | (go_big_quiet_want; (go_big_quiet_op; go_big_quiet_on)))
      refine wpQuiet_nil ?_
      go_wp2_with (go_at_call 9; refine (KC1.out _ hbd).mono ?_; rintro e W3 ⟨rfl, hb3⟩)
      refine Mix.onward_normal (bthen' hbd hb3) ?_
      have hb13 := bthen' hbd hb3
      refine Mix.stages_cons ?_
      simp only [Mix.pickL, List.getElem?_cons_zero, List.getElem?_cons_succ]
      repeat (first
        | go_big_quiet_skip
        | (go_big_quiet_want; (go_big_quiet_op; go_big_quiet_on)))
      refine wpQuiet_nil ?_
      go_wp2_with (go_at_call 9; refine (KC2.out _ hb13).mono ?_; rintro e W4 ⟨rfl, hb4⟩)
      refine Mix.onward_normal hb4 ?_
      have hb14 := bthen' hb13 hb4
      refine Mix.stages_nil ?_
      simp only [Mix.pickL, List.getElem?_cons_zero, List.getElem?_cons_succ]
      repeat (first
        | go_big_quiet_skip
        | (go_big_quiet_want; (go_big_quiet_op; go_big_quiet_on)))
      refine wpQuiet_nil ?_
      clear d0 d1 d2
      have HB4 := Lib.hid (bthen' HW.out hb14)
      obtain ⟨n0, n1, n2⟩ := qs_parts (below_range HB4.out HQ.out)
      go_upto_region 15 with (go_at_call 10; refine (KE.out _ hb14).mono ?_; rintro e W5 ⟨rfl, hb5⟩)
      have HB5 := Lib.hid (bthen' HB4.out hb5)
      clear n0 n1 n2
      obtain ⟨-, n1, -⟩ := qs_parts (below_range HB5.out HQ.out)
      clear HV HQ KC1 KC2 KE hb14 hb13 hb3 hb4 hb5 HB4 HW HK
      have LV := Lib.hid live13_any
      cases ok with
      | false =>
        clear HAT HL HI
        go_wp2_with (go_at_call 6; refine (LV.out _).mono ?_; rintro e W9 ⟨rfl, hb9⟩)
        go_ret
        exact ⟨rfl, bthen' HB0.out (bthen' HB5.out hb9)⟩
      | true =>
        by_cases hai : ai < L.length
        · obtain ⟨n, hn⟩ : ∃ n, L[ai]? = some n := ⟨_, List.getElem?_eq_getElem hai⟩
          have hle := HAT.out rfl n hn
          obtain ⟨i0, i1⟩ := HI.out n (List.mem_of_getElem? hn)
          obtain ⟨b, o, rfl, r1⟩ := (HL.out.below HB5.out).at hn
          have nc : W5.cell? ⟨b, o + ai, none⟩ = some (.int .i64 n) := by have := r1 0 _ rfl; simpa [intR] using this
          clear r1 hn HAT HL HI
          by_cases hn0 : n < 0
          · have e1 : max n 0 = 0 := by omega
            rw [e1] at hle
            go_wp2_with (go_at_call 6; refine (LV.out _).mono ?_; rintro e W9 ⟨rfl, hb9⟩)
            go_ret
            exact ⟨rfl, bthen' HB0.out (bthen' HB5.out hb9)⟩
          · have e1 : max n 0 = n := by omega
            rw [e1] at hle
            go_wp2_with (go_at_call 6; refine (LV.out _).mono ?_; rintro e W9 ⟨rfl, hb9⟩)
            go_ret
            exact ⟨rfl, bthen' HB0.out (bthen' HB5.out hb9)⟩
        · clear HAT HL HI
          go_wp2_with (go_at_call 6; refine (LV.out _).mono ?_; rintro e W9 ⟨rfl, hb9⟩)
          go_ret
          exact ⟨rfl, bthen' HB0.out (bthen' HB5.out hb9)⟩


theorem rises_of (w : World) (v : Value) (A : List Rn) (q : Qs) (more : Int) (hv : Reads rnR w v A) (hA : ∀ a ∈ A, inU a) (hq : q.In w) :
    Calls Try.prog 3 #[v, .agg q.cells.toArray, .int .i64 more] w fun e w' => e = .returned (.bool true) ∧ Below w.heap.size w w' := by
  by_cases h : 100 < A.length ∨ 20 < q.L.length ∨ more < q.p ∨ 100 < more ∨ q.p < 1
  · exact rises_far w v A q more hv hq h
  · exact rises_yes w v A q more hv hA hq (by omega) (by omega) (by omega) (by omega) (by omega)

end Go.Proofs.Yteifjlhkfmoljaa

