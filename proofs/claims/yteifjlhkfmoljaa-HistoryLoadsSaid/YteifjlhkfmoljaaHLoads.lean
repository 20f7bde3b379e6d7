/- Rows that came in; the walk of the statement on rows loaded. -/
import Derived.Test.YteifjlhkfmoljaaHActs
import Derived.Test.YteifjlhkfmoljaaHLoad
import Derived.OpenShut
import Derived.ProofKit
set_option linter.unusedVariables false
namespace Go.Proofs.Yteifjlhkfmoljaa
open Go.ChangeShapes Go.WideShapes Go.ChangeAt Go.RowKit Go.Deep

theorem cellsH : Try.prog.cellsOf 49 = 16 := by kernel_rfl
theorem cellsRow : Try.prog.cellsOf 61 = 17 := by kernel_rfl
theorem hist_cells {H : Type} {enc : TypeId × Value → H} {W : World} {base fuel : Nat} {spare : Nat → Bool} {held : Bool} {cs : List Value} {x : DataW H × List MemPlace}
    (h : DataW.trod enc Try.prog W base spare held fuel 49 cs = some x) : ∃ hs : List Int, hs.length = 16 ∧ cs = hs.map (Value.int .i64) ∧ ∀ n ∈ hs, -9223372036854775808 ≤ n ∧ n ≤ 9223372036854775807 := by
  obtain ⟨xs, m, -, -, hl, hxl, hx⟩ := DataW.trod_array histU h
  rw [cellsH] at hl
  have hcell : ∀ i, i < 16 → ∃ n, cs[i]? = some (.int .i64 n) ∧ (Lit.int .i64 n).wf = true := by
    intro i hi
    have h1 := hx i hi
    rw [cellsI, List.getElem?_eq_getElem (by omega)] at h1
    obtain ⟨n, hn, -, hwf⟩ := DataW.trod_int Try.underlying3 h1
    refine ⟨n, ?_, hwf⟩
    have : (List.take 1 (List.drop (i * 1) cs))[0]? = some (.int .i64 n) := by rw [hn]; rfl
    simpa using this
  refine ⟨(List.range 16).map (fun i => (cs[i]?.map intOf).getD 0), by simp, ?_, ?_⟩
  · apply List.ext_getElem?
    intro i
    by_cases hi : i < 16
    · obtain ⟨n, hn, -⟩ := hcell i hi
      simp [hi, hn, intOf]
    · rw [List.getElem?_eq_none (by omega), List.getElem?_eq_none (by simp; omega)]
  · intro n hn
    obtain ⟨i, hi, rfl⟩ := List.mem_map.1 hn
    obtain ⟨n, hn, hwf⟩ := hcell i (List.mem_range.1 hi)
    simp only [hn, Option.map_some, Option.getD_some, intOf]
    exact bounds_i64 hwf

set_option maxRecDepth 100000 in
theorem row_cells {H : Type} {enc : TypeId × Value → H} {W : World} {base fuel : Nat} {spare : Nat → Bool} {held : Bool} {cs : List Value} {x : DataW H × List MemPlace} (hl : cs.length = 17)
    (h : DataW.trod enc Try.prog W base spare held fuel 61 cs = some x) : ∃ p : Rw, cs = rowR.cells p := by
  obtain ⟨ys, m, _, rfl, _, hl2, hf⟩ := DataW.trod_struct Try.underlying61 h
  match cs, hl with
  | a :: r, hl =>
  match ys, hl2 with
  | [y0, y1], _ =>
  have hy0 := hf 0 _ rfl
  have hy1 := hf 1 _ rfl
  simp [cellsS, cellsH] at hy0 hy1
  obtain ⟨E, eE, -, -⟩ := DataW.trod_string Try.underlying9 hy0
  obtain ⟨hs, hl16, hcs, -⟩ := hist_cells hy1
  simp at eE
  have hr : r.length = 16 := by simpa using hl
  rw [List.take_of_length_le (by omega)] at hcs
  exact ⟨(E, ⟨hs, hl16⟩), by rw [eE, hcs]; rfl⟩
theorem openRows {H : Type} {enc : TypeId × Value → H} {W : World} {b0 base : Nat} {r : Reach} {spare : Nat → Bool} {held : Bool} {v : Value} {d : DataW H} {p : List MemPlace}
    (hv : Value.okWide Try.prog W r b0 37 v) (h : DataW.Trod enc Try.prog W base spare held 37 v d p) : ∃ L : List Rw, Reads rowR W v L :=
  openRecs rowOk cellsRow (fun hl h => row_cells hl h) hv h

set_option maxRecDepth 100000 in
set_option maxHeartbeats 2000000 in
theorem hLoads_of (w : World) (room : Int) (v : Value) (L : List Rw) (q : Qs) (hv : Reads rowR w v L) (hq : q.In w) :
    Calls Try.prog 5 #[.int .i64 room, v, .agg q.cells.toArray] w fun e w' => e = .returned (.bool true) ∧ Below w.heap.size w w' := by
  obtain ⟨av, capv, rfl⟩ := hv.form
  have hb0 : Below w.heap.size w (w.alloc (.cells q.cells.toArray 25)) := (Below.refl _ _).alloc (Nat.le_refl _) _
  have hr0 : (w.alloc (.cells q.cells.toArray 25)).rangeAt w.heap.size 0 q.cells := fun j v hv => by
    rw [cell_of_row _ w.heap.size (0 + j) _ 25 (0, 0) (heap_alloc_new _ _)]
    simpa using hv
  obtain ⟨W0, hW0⟩ : ∃ W0, W0 = (w.alloc (.cells q.cells.toArray 25)) := ⟨_, rfl⟩
  rw [← hW0] at hb0 hr0
  obtain ⟨al, cl, hal⟩ := hq.lim.form
  have HV := Lib.hid (hv.below hb0)
  have HB0 := Lib.hid hb0
  have HQ := Lib.hid hr0
  have HI := Lib.hid (show q.In W0 from ⟨hq.lim.below hb0, hq.bd⟩)
  obtain ⟨-, n1, -⟩ := qs_at hr0
  rw [hal] at n1
  clear hv hb0 hr0 hq
  by_cases hbig : 60 < L.length
  · go_enter Try.func5, Try.ntmps5
    go_upto_region 1 with fail
    show Code.wp _ _ _ _ (w.alloc (.cells q.cells.toArray 25))
    rw [← hW0]
    clear hW0
    go_wp2_with (go_at_call 6; refine (live13_any _).mono ?_; rintro e W2 ⟨rfl, hb2⟩)
    go_ret
    exact ⟨rfl, bthen' HB0.out hb2⟩
  · by_cases hlim : 20 < q.L.length
    · go_enter Try.func5, Try.ntmps5
      go_upto_region 1 with fail
      show Code.wp _ _ _ _ (w.alloc (.cells q.cells.toArray 25))
      rw [← hW0]
      clear hW0
      go_wp2_with (go_at_call 6; refine (live13_any _).mono ?_; rintro e W2 ⟨rfl, hb2⟩)
      go_ret
      exact ⟨rfl, bthen' HB0.out hb2⟩
    · have KL := Lib.hid (hload_any W0 room _ L HV.out (by omega))
      have kR := fun W (hb : Below W0.heap.size W0 W) => refRightL_any W room _ L (HV.out.below hb) (by omega)
      cases hR : rightL room L with
      | false =>
        rw [hR] at kR
        have KR := Lib.hid kR
        have HR := Lib.hid hR
        clear kR hR
        go_enter Try.func5, Try.ntmps5
        go_upto_region 1 with fail
        show Code.wp _ _ _ _ (w.alloc (.cells q.cells.toArray 25))
        rw [← hW0]
        clear hW0
        go_wp2_with (first
          | (go_at_call 13; refine KL.out.mono ?_; rintro e W1 ⟨hb1, ⟨-, rfl⟩ | ⟨hy, -⟩⟩; rotate_left; exact absurd (HR.out.symm.trans hy) (by decide))
          | (go_at_call 14; refine (KR.out W1 hb1).mono ?_; rintro e W2 ⟨rfl, hb2⟩)
          | (go_at_call 6; refine (live13_any _).mono ?_; rintro e W3 ⟨rfl, hb3⟩))
        go_ret
        exact ⟨rfl, bthen' HB0.out (bthen' hb1 (bthen' hb2 hb3))⟩
      | true =>
        rw [hR] at kR
        have KR := Lib.hid kR
        have HR := Lib.hid hR
        clear kR hR
        go_enter Try.func5, Try.ntmps5
        go_upto_region 1 with fail
        show Code.wp _ _ _ _ (w.alloc (.cells q.cells.toArray 25))
        rw [← hW0]
        clear hW0
        go_wp2_with (first
          | (go_at_call 13; refine KL.out.mono ?_; rintro e W1 ⟨hb1, ⟨hy, -⟩ | ⟨-, h, t, c, m, E, rfl, hH1, hE1⟩⟩; exact absurd (HR.out.symm.trans hy) (by decide); have HE := Lib.hid hE1; have HH := Lib.hid hH1; clear hE1 hH1)
          | (go_at_call 14; refine (KR.out W1 hb1).mono ?_; rintro e W2 ⟨rfl, hb2⟩)
          | (refine wl_load_mid rfl 25 _ rfl w.heap.size 0 rfl q.cells _ (below_range (bthen' hb1 hb2) HQ.out) Try.underlying25 rfl askRow ?_)
          | (go_at_call 12; refine (same_true W2 W0.heap.size h t room c m E _ q ⟨HH.out.below hb2, by rw [HE.out]; exact HV.out.below (bthen' hb1 hb2), ⟨HI.out.lim.below (bthen' hb1 hb2), HI.out.bd⟩⟩ (by omega) (by have := congrArg List.length HE.out; rw [List.length_reverse] at this; unfold rws at this; rw [List.length_map] at this; omega)).mono ?_; rintro e W4 ⟨rfl, hb4⟩)
          | (go_at_call 6; refine (live13_any _).mono ?_; rintro e W3 ⟨rfl, hb3⟩))
        go_ret
        exact ⟨rfl, bthen' HB0.out (bthen' hb1 (bthen' hb2 (bthen' hb4 hb3)))⟩
end Go.Proofs.Yteifjlhkfmoljaa
