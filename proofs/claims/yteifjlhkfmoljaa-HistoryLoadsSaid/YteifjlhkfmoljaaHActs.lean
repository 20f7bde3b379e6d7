/- The walk of the statement on what a history's table tells behind any runtimes. -/
import Derived.Test.YteifjlhkfmoljaaHSame2
set_option linter.unusedVariables false
namespace Go.Proofs.Yteifjlhkfmoljaa
open Go.RowKit

structure RnIn (w : World) (b o : Nat) (a : Rn) : Prop where
  h : w.rangeAt b o (rnR.cells a)
theorem RnIn.range {w w' : World} {b o : Nat} {a : Rn} (h : RnIn w b o a) (hb : Below w.heap.size w w') : w'.rangeAt b o (rnR.cells a) := below_range hb h.h

theorem rh_apart {B B' : Nat} {w : World} {t r : Nat} {room room' : Int} {c m : Nat} {E : List (Ent Hs)} {u : Value} {L : List Rw} (hT : TabH B w t room c m E) (hR : RH B' w r room' u L) : r ∉ tF TE t c m E := by
  obtain ⟨a, cu, hu⟩ := hR.out.lts.form
  have r0 := hR.box.get (i := 0) rfl
  have r1 := hR.box.get (i := 1) rfl
  intro hin
  unfold tF cF blocks lks at hin
  simp only [List.mem_cons, List.mem_append, List.map_map, List.mem_map, Function.comp_apply, Ent.lk] at hin
  rcases hin with h | h | (h | ⟨x, hx, h⟩) | ⟨x, hx, h⟩
  · subst h
    have := hT.box.get (i := 1) rfl
    rw [r1, hu] at this
    cases this
  · subst h
    obtain ⟨es, clock, hh, -⟩ := hT.map.size
    unfold World.cell? at r0
    rw [hh] at r0
    cases r0
  · subst h
    have := hT.ch.box.get (i := 0) rfl
    rw [r0] at this
    cases this
  · subst h
    obtain ⟨i, hi⟩ := List.mem_iff_getElem?.1 hx
    have := (hT.node hi).get (i := 0) rfl
    rw [r0] at this
    cases this
  · subst h
    have := (hT.ents x hx).get (i := 0) rfl
    rw [r0] at this
    cases this
theorem RH.updF {B : Nat} {w w' : World} {r : Nat} {room : Int} {u : Value} {L : List Rw} {F : List Nat} (h : RH B w r room u L) (hu : Upd F w w') (hr : r ∉ F) (ha : ReadsOut rowR F w u L) : RH B w' r room u L := by
  refine ⟨h.box.upd hu hr, ?_, h.low, h.few⟩
  rcases h.out with h1 | ⟨b, off, cap, hv, hb, hr1⟩
  · exact .inl h1
  · rcases ha with h2 | ⟨b2, off2, cap2, hv2, hb2, hr2⟩
    · exact .inr ⟨b, off, cap, hv, hb, fun i x hx => by rw [h2.1] at hx; simp at hx⟩
    · rw [hv] at hv2
      simp only [Value.slice.injEq, Option.some.injEq, Addr.mk.injEq, and_true, true_and] at hv2
      obtain ⟨⟨rfl, rfl⟩, rfl⟩ := hv2
      exact .inr ⟨b, off, cap, hv, hb, fun i x hx => hu.range hb2 (hr1 i x hx)⟩

structure HBoth (w wr : World) (h t r : Nat) (room : Int) (c m : Nat) (E : List (Ent Hs)) (u : Value) : Prop where
  below : Below w.heap.size w wr
  H : HTab w.heap.size wr h t room c m E
  ref : RH w.heap.size wr r room u (rws E).reverse
  apart : ReadsOut rowR (tF TE t c m E) wr u (rws E).reverse
namespace HBoth
variable {w wr w' : World} {h t r : Nat} {room : Int} {c m : Nat} {E : List (Ent Hs)} {u : Value}
theorem below' (s : HBoth w wr h t r room c m E u) (hb : Below wr.heap.size wr w') : HBoth w w' h t r room c m E u :=
  ⟨bthen' s.below hb, s.H.below hb, s.ref.below hb, s.apart.upd (Upd.ofBelow _ hb)⟩
theorem hne (s : HBoth w wr h t r room c m E u) : h ≠ r := by
  intro e
  subst e
  have h0 := s.ref.box.get (i := 0) rfl
  rw [s.H.ptr0] at h0
  cases h0
theorem table (s : HBoth w wr h t r room c m E u) (hu : Upd (tF TE t c m E) wr w') : Below w.heap.size w w' ∧ RH w.heap.size w' r room u (rws E).reverse :=
  ⟨hu.toBelow s.below s.below.size (fun i hi => (s.H.tab.low i hi).1), s.ref.updF hu (rh_apart s.H.tab s.ref) s.apart⟩
theorem turn {W1 W2 : World} {E' : List (Ent Hs)} {u0 u' : Value} {L0 : List Rw} (hb : Below w.heap.size w W1) (hH : HTab w.heap.size W1 h t room c m E') (hR0 : RH w.heap.size W1 r room u0 L0) (hu : Upd [r] W1 W2) (hR : RH w.heap.size W2 r room u' (rws E').reverse) (hA : ReadsAt rowR W1.heap.size W2 u' (rws E').reverse) : HBoth w W2 h t r room c m E' u' := by
  have hne : h ≠ r := by
    intro e
    subst e
    have h0 := hR0.box.get (i := 0) rfl
    rw [hH.ptr0] at h0
    cases h0
  exact ⟨hu.toBelow hb hb.size (fun i hi => by simp at hi; subst hi; exact hR0.low), ⟨hu.heap (by simpa using hne) hH.box, hH.tab.upd hu (fun b hb2 => by simp; intro e; subst e; exact rh_apart hH.tab hR0 hb2), hH.low, hH.fits⟩, hR, hA.out _ (fun i hi => (hH.tab.low i hi).2)⟩
end HBoth

set_option maxRecDepth 100000 in
set_option maxHeartbeats 1000000 in
theorem hActs_far (w : World) (room : Int) (v : Value) (A : List Rn) (q : Qs) (hv : Reads rnR w v A) (hq : q.In w) (h : 200 < A.length ∨ 20 < q.L.length ∨ room < 1) :
    Calls Try.prog 4 #[.int .i64 room, v, .agg q.cells.toArray] w fun e w' => e = .returned (.bool true) ∧ Below w.heap.size w w' := by
  obtain ⟨av, capv, rfl⟩ := hv.form
  obtain ⟨key, lv, L, p⟩ := q
  obtain ⟨hlim, hbdL⟩ := hq
  simp only at hlim hbdL h
  obtain ⟨al, cl, rfl⟩ := hlim.form
  have hb0 : Below w.heap.size w (w.alloc (.cells (Qs.cells ⟨key, .slice al L.length cl, L, p⟩).toArray 25)) := (Below.refl _ _).alloc (Nat.le_refl _) _
  have hr0 : (w.alloc (.cells (Qs.cells ⟨key, .slice al L.length cl, L, p⟩).toArray 25)).rangeAt w.heap.size 0 (Qs.cells ⟨key, .slice al L.length cl, L, p⟩) := fun j v hv => by
    rw [cell_of_row _ w.heap.size (0 + j) _ 25 (0, 0) (heap_alloc_new _ _)]
    simpa using hv
  obtain ⟨W0, hW0⟩ : ∃ W0, W0 = (w.alloc (.cells (Qs.cells ⟨key, .slice al L.length cl, L, p⟩).toArray 25)) := ⟨_, rfl⟩
  rw [← hW0] at hb0 hr0
  have HB0 := Lib.hid hb0
  have R0 := Lib.hid hr0
  clear hr0 hlim hv hbdL hb0
  by_cases hr : room < 1
  · have KN := Lib.hid (hnew_none W0 room hr)
    clear h
    obtain ⟨-, n1, -⟩ := qs_at R0.out
    simp only at n1
    by_cases h1 : 200 < A.length
    · go_enter Try.func4, Try.ntmps4
      go_upto_region 1 with fail
      show Code.wp _ _ _ _ (w.alloc (.cells (Qs.cells ⟨key, .slice al L.length cl, L, p⟩).toArray 25))
      rw [← hW0]
      clear hW0
      go_wp2_with (first
        | (go_at_call 7; refine KN.out.mono ?_; rintro e w' ⟨rfl, rfl⟩)
        | (go_at_call 6; refine (live13_any _).mono ?_; rintro e W2 ⟨rfl, hb2⟩))
      go_ret
      exact ⟨rfl, bthen' HB0.out hb2⟩
    · by_cases h2 : 20 < L.length
      all_goals
        go_enter Try.func4, Try.ntmps4
        go_upto_region 1 with fail
        show Code.wp _ _ _ _ (w.alloc (.cells (Qs.cells ⟨key, .slice al L.length cl, L, p⟩).toArray 25))
        rw [← hW0]
        clear hW0
        go_wp2_with (first
          | (go_at_call 7; refine KN.out.mono ?_; rintro e w' ⟨rfl, rfl⟩)
          | (go_at_call 6; refine (live13_any _).mono ?_; rintro e W2 ⟨rfl, hb2⟩))
        go_ret
        exact ⟨rfl, bthen' HB0.out hb2⟩
  · have hr2 : 1 ≤ room := by omega
    have KN := Lib.hid (hnew_any W0 room hr2)
    by_cases h1 : 200 < A.length
    · clear h
      go_enter Try.func4, Try.ntmps4
      go_upto_region 1 with fail
      show Code.wp _ _ _ _ (w.alloc (.cells (Qs.cells ⟨key, .slice al L.length cl, L, p⟩).toArray 25))
      rw [← hW0]
      clear hW0
      go_wp2_with (first
        | (go_at_call 7; refine KN.out.mono ?_; rintro e W1 ⟨h', t, c, m, rfl, hb1, hT1⟩; obtain ⟨-, n1, -⟩ := qs_at (below_range hb1 R0.out); simp only at n1)
        | (go_at_call 6; refine (live13_any _).mono ?_; rintro e W2 ⟨rfl, hb2⟩))
      go_ret
      exact ⟨rfl, bthen' HB0.out (bthen' hb1 hb2)⟩
    · have h2 : 20 < L.length := by omega
      clear h
      go_enter Try.func4, Try.ntmps4
      go_upto_region 1 with fail
      show Code.wp _ _ _ _ (w.alloc (.cells (Qs.cells ⟨key, .slice al L.length cl, L, p⟩).toArray 25))
      rw [← hW0]
      clear hW0
      go_wp2_with (first
        | (go_at_call 7; refine KN.out.mono ?_; rintro e W1 ⟨h', t, c, m, rfl, hb1, hT1⟩; obtain ⟨-, n1, -⟩ := qs_at (below_range hb1 R0.out); simp only at n1)
        | (go_at_call 6; refine (live13_any _).mono ?_; rintro e W2 ⟨rfl, hb2⟩))
      go_ret
      exact ⟨rfl, bthen' HB0.out (bthen' hb1 hb2)⟩

theorem hboth_start {w W1 : World} {h t : Nat} {room : Int} {c m : Nat} (hb1 : Below w.heap.size w W1) (hH : HTab w.heap.size W1 h t room c m []) :
    HBoth w (W1.alloc (.cells #[.int .i64 room, .slice none 0 0] 39)) h t W1.heap.size room c m [] (.slice none 0 0) := by
  have hb2 : Below W1.heap.size W1 (W1.alloc (.cells #[.int .i64 room, .slice none 0 0] 39)) := (Below.refl _ _).alloc (Nat.le_refl _) _
  exact ⟨bthen' hb1 hb2, hH.below hb2, ⟨Cel.new W1 39 [.int .i64 room, .slice none 0 0], .inl ⟨rfl, none, 0, rfl⟩, hb1.size, by simp [rws]⟩, .inl ⟨rfl, none, 0, rfl⟩⟩
theorem HBoth.same {w wr : World} {h t r : Nat} {room : Int} {c m : Nat} {E : List (Ent Hs)} {u : Value} {q : Qs} (s : HBoth w wr h t r room c m E u) (hq : q.In w) : SameIn w.heap.size wr h t room c m E u q :=
  ⟨s.H, s.ref.out.lts, ⟨hq.lim.below s.below, hq.bd⟩⟩

set_option maxRecDepth 100000 in
set_option maxHeartbeats 2000000 in
theorem hActs_yes (w : World) (room : Int) (v : Value) (A : List Rn) (q : Qs) (hv : Reads rnR w v A) (hA : ∀ a ∈ A, inU a) (hq : q.In w) (c1 : A.length ≤ 200) (c2 : q.L.length ≤ 20) (c3 : 1 ≤ room) :
    Calls Try.prog 4 #[.int .i64 room, v, .agg q.cells.toArray] w fun e w' => e = .returned (.bool true) ∧ Below w.heap.size w w' := by
  obtain ⟨av, capv, rfl⟩ := hv.form
  have hb0 : Below w.heap.size w (w.alloc (.cells q.cells.toArray 25)) := (Below.refl _ _).alloc (Nat.le_refl _) _
  have hr0 : (w.alloc (.cells q.cells.toArray 25)).rangeAt w.heap.size 0 q.cells := fun j v hv => by
    rw [cell_of_row _ w.heap.size (0 + j) _ 25 (0, 0) (heap_alloc_new _ _)]
    simpa using hv
  obtain ⟨W0, hW0⟩ : ∃ W0, W0 = (w.alloc (.cells q.cells.toArray 25)) := ⟨_, rfl⟩
  rw [← hW0] at hb0 hr0
  obtain ⟨al, cl, hal⟩ := hq.lim.form
  have HV := Lib.hid (hv.below hb0)
  have HB0 := Lib.hid hb0
  have HQ := Lib.hid hr0
  have HI := Lib.hid (show q.In W0 from ⟨hq.lim.below hb0, hq.bd⟩)
  have KN := Lib.hid (hnew_any W0 room c3)
  obtain ⟨-, n1, -⟩ := qs_at hr0
  rw [hal] at n1
  clear hv hb0 hr0 hq
  go_enter Try.func4, Try.ntmps4
  go_upto_region 1 with fail
  show Code.wp _ _ _ _ (w.alloc (.cells q.cells.toArray 25))
  rw [← hW0]
  clear hW0
  go_upto_block 0 with (go_at_call 7; refine KN.out.mono ?_; rintro e W1 ⟨h, t, c, m, rfl, hb1, hH1⟩; obtain ⟨-, n1, -⟩ := qs_at (below_range hb1 HQ.out); rw [hal] at n1)
  have HS := hboth_start hb1 hH1
  obtain ⟨r, hre⟩ : ∃ r, r = W1.heap.size := ⟨_, rfl⟩
  rw [← hre] at HS ⊢
  generalize W1.alloc (.cells #[.int .i64 room, .slice none 0 0] 39) = W2 at HS ⊢
  clear hb1 hH1 KN hre n1
  clear n1
  go_wp2_with fail
  go_loopw [9] (fun i wr => ∃ (k : Nat) (E : List (Ent Hs)) (u : Value), k ≤ A.length ∧ E.length ≤ k ∧ i = .int .i64 k ∧ HBoth W0 wr h t r room c m E u) (fun i _ => A.length - (intOf i).toNat)
  case atStart => exact ⟨0, [], _, by omega, by simp, rfl, HS⟩
  case round =>
    clear HS
    obtain ⟨k, E, u, hk, hE, rfl, hB⟩ := hrel
    have HB := Lib.hid hB
    by_cases hlt : k < A.length
    · obtain ⟨a, ha⟩ : ∃ a, A[k]? = some a := ⟨_, List.getElem?_eq_getElem hlt⟩
      obtain ⟨b, off, rfl, hr2⟩ := (HV.out.below hB.below).at ha
      obtain ⟨b9, off9, e9, hA9⟩ := HV.out.at ha
      obtain ⟨rfl, rfl⟩ : b = b9 ∧ off = off9 := by simpa using e9
      have hA1 : RnIn W0 b (off + k * rnR.n) a := ⟨hA9⟩
      have hu := Lib.hid (hA a (List.mem_of_getElem? ha))
      clear ha hB hA9 e9
      go_upto_region 8 with fail
      have hne : Nonempty (Mix.InS (fun x => x.rangeAt b (off + k * rnR.n) (rnR.cells a))) := ⟨⟨wr, hr2⟩⟩
      have HRA := Lib.hid hr2
      have d1 := fun (z : Mix.InS (fun x => x.rangeAt b (off + k * rnR.n) (rnR.cells a))) => (show z.w.cell? ⟨b, off + k * 2, none⟩ = some (.string a.key) from (rn_parts z.h).1)
      have d2 := fun (z : Mix.InS (fun x => x.rangeAt b (off + k * rnR.n) (rnR.cells a))) => (show z.w.cell? ⟨b, off + k * 2 + 1, none⟩ = some (.int .u64 a.x) from (rn_parts z.h).2)
      refine Mix.wp_region_mix [([0, 1, 2, 3, 4, 5, 6, 7, 8, 9, 10], 11)] [] (fun w' => ∃ x : Mix.InS (fun x => x.rangeAt b (off + k * rnR.n) (rnR.cells a)), w' = x.w) (by kernel_rfl) (by kernel_rfl) (Mix.inS_mk (below_range (Below.refl _ _).drew hr2)) ?_
      clear hr2
      have hbd : Below wr.heap.size wr wr.drew := (Below.refl _ _).drew
      generalize wr.drew = W3 at hbd ⊢
      have HB3 := Lib.hid (HB.out.below' hbd)
      refine Mix.stages_cons ?_
      simp only [Mix.pickL, List.getElem?_cons_zero, List.getElem?_cons_succ]
      repeat (first
        | go_big_quiet_skip
        | (go_big_quiet_want; (go_big_quiet_op; go_big_quiet_on)))
      refine wpQuiet_nil ?_
      go_wp2_with (go_at_call 8; refine (observe_any W3 W0.heap.size h t room c m E HB3.out.H HB3.out.below.size c3 a.key a.x hu.out.1 hu.out.2 (by omega)).mono ?_; rintro e W4 ⟨rfl, E4, hu4, hH4, hl4, hr4⟩)
      obtain ⟨hbW4, hR4⟩ := HB3.out.table hu4
      refine Mix.onward_in (hA1.range hbW4) ?_
      refine Mix.stages_nil ?_
      simp only [Mix.pickL]
      refine wpQuiet_nil ?_
      have HBW4 := Lib.hid hbW4
      have HR4 := Lib.hid hR4
      have HH4 := Lib.hid hH4
      have hf4 := hH4.fits
      have hlr : (rws E).length ≤ 1000 := by unfold rws; rw [List.length_map]; omega
      have KO := Lib.hid (robserve_any)
      clear hbW4 hR4 hH4
      go_upto_region 9 with fail
      refine Mix.wp_region_mix [([0, 1, 2, 3, 4, 5, 6, 7, 8, 9], 10)] [] (fun w' => ∃ x : Mix.InS (fun x => x.rangeAt b (off + k * rnR.n) (rnR.cells a)), w' = x.w) (by kernel_rfl) (by kernel_rfl) (Mix.inS_mk (hA1.range HBW4.out.drew)) ?_
      have hbd4 : Below W4.heap.size W4 W4.drew := (Below.refl _ _).drew
      generalize W4.drew = W5 at hbd4 ⊢
      have HBW5 := Lib.hid (bthen' HBW4.out hbd4)
      have HR5 := Lib.hid (HR4.out.below hbd4)
      have HH5 := Lib.hid (HH4.out.below hbd4)
      refine Mix.stages_cons ?_
      simp only [Mix.pickL, List.getElem?_cons_zero, List.getElem?_cons_succ]
      repeat (first
        | go_big_quiet_skip
        | (go_big_quiet_want; (go_big_quiet_op; go_big_quiet_on)))
      refine wpQuiet_nil ?_
      go_wp2_with (go_at_call 11; refine (robserve_any W5 W0.heap.size r room u (rws E).reverse HR5.out a.key a.x hu.out.1 hu.out.2 (by rw [List.length_reverse]; exact hlr)).mono ?_; rintro e W6 ⟨rfl, hu6, u6, hR6, hA6⟩)
      have hrev := robs_reverse (R := rws E) (room := room) (by unfold rws; rw [List.map_map]; exact HB.out.H.tab.keys) (by have := HB.out.H.fits; unfold rws; rw [List.length_map]; exact this) a.key a.x
      rw [hrev, ← hr4] at hR6 hA6
      have HB6 := Lib.hid (HBoth.turn HBW5.out HH5.out HR5.out hu6 hR6 hA6)
      refine Mix.onward_in (hA1.range HB6.out.below) ?_
      clear d1 d2
      refine Mix.stages_nil ?_
      simp only [Mix.pickL]
      refine wpQuiet_nil ?_
      clear hne hrev hu4 hu6 hR6 hA6 hr4
      go_upto_region 10 with fail
      obtain ⟨a6, c6, hf6⟩ := HB6.out.ref.out.lts.form
      rw [List.length_reverse] at hf6
      subst hf6
      have hr6 := HB6.out.ref.box.range
      have hq6 := below_range HB6.out.below HQ.out
      have KS := Lib.hid (same_true W6 W0.heap.size h t room c m E4 _ q (HB6.out.same HI.out) (by omega) (by omega))
      go_wp2_with (first
        | (refine wpList_load_mid rfl 39 _ rfl r 0 rfl [.int .i64 room, .slice a6 (rws E4).length c6] _ hr6 Try.underlying39 rfl tgRow ?_)
        | (refine wpList_load_mid rfl 25 _ rfl w.heap.size 0 rfl q.cells _ hq6 Try.underlying25 rfl askRow ?_)
        | (go_at_call 12; refine KS.out.mono ?_; rintro e W7 ⟨rfl, hb7⟩))
      go_roundw
      case rel => exact ⟨k + 1, E4, _, by omega, by omega, by go_num, HB6.out.below' hb7⟩
      case measure => simp [intOf]; omega
    · obtain ⟨a6, c6, hf6⟩ := HB.out.ref.out.lts.form
      rw [List.length_reverse] at hf6
      subst hf6
      have hr6 := HB.out.ref.box.range
      have hq6 := below_range HB.out.below HQ.out
      have KS := Lib.hid (same_true wr W0.heap.size h t room c m E _ q (HB.out.same HI.out) (by omega) (by omega))
      clear hB
      go_wp2_with (first
        | (refine wpList_load_mid rfl 39 _ rfl r 0 rfl [.int .i64 room, .slice a6 (rws E).length c6] _ hr6 Try.underlying39 rfl tgRow ?_)
        | (refine wpList_load_mid rfl 25 _ rfl w.heap.size 0 rfl q.cells _ hq6 Try.underlying25 rfl askRow ?_)
        | (go_at_call 12; refine KS.out.mono ?_; rintro e W7 ⟨rfl, hb7⟩)
        | (go_at_call 6; refine (live13_any _).mono ?_; rintro e W8 ⟨rfl, hb8⟩))
      go_ret
      exact ⟨rfl, bthen' HB0.out (bthen' HB.out.below (bthen' hb7 hb8))⟩

theorem hActs_of (w : World) (room : Int) (v : Value) (A : List Rn) (q : Qs) (hv : Reads rnR w v A) (hA : ∀ a ∈ A, inU a) (hq : q.In w) :
    Calls Try.prog 4 #[.int .i64 room, v, .agg q.cells.toArray] w fun e w' => e = .returned (.bool true) ∧ Below w.heap.size w w' := by
  by_cases h : 200 < A.length ∨ 20 < q.L.length ∨ room < 1
  · exact hActs_far w room v A q hv hq h
  · exact hActs_yes w room v A q hv hA hq (by omega) (by omega) (by omega)
end Go.Proofs.Yteifjlhkfmoljaa
