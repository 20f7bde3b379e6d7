/- Observe, Estimate of a history's table. (Printed by genhobs.py.) -/
import Derived.Test.YteifjlhkfmoljaaHTab
set_option linter.unusedVariables false
namespace Go.Proofs.Yteifjlhkfmoljaa
open Go.RowKit

set_option maxRecDepth 100000 in
set_option maxHeartbeats 1000000 in
theorem observe_any (w : World) (B h t : Nat) (room : Int) (c m : Nat) (E : List (Ent Hs)) (H : HTab B w h t room c m E) (hB : B ≤ w.heap.size) (hr : 1 ≤ room) (k : ByteArray) (x : Int) (hx0 : 0 ≤ x) (hx1 : x ≤ 18446744073709551615) (hbig : E.length ≤ 1000) :
    Calls Try.prog 8 #[.pointer (some ⟨h, 0, none⟩), .string k, .int .u64 x] w (Seen w B h t room c m E k x) := by
  have HH := Lib.hid H
  clear H
  go_enter Try.func8, Try.ntmps8
  go_upto_region 1 with (go_at_call 16; refine (ok_any w h t HH.out.box).mono ?_; rintro e w' ⟨rfl, rfl⟩)
  have hne : Nonempty (Mix.InS (fun z => z.heap[h]? = some (.cells #[.pointer (some ⟨t, 0, none⟩)] 51 (0, 0)))) := ⟨⟨w, HH.out.box⟩⟩
  have d0 := fun (z : Mix.InS (fun z => z.heap[h]? = some (.cells #[.pointer (some ⟨t, 0, none⟩)] 51 (0, 0)))) => ptr_of z.h
  refine Mix.wp_region_mix [([0, 1, 2, 3, 4, 5, 6, 8], 7), ([], 9), ([], 10)] [] (fun w' => ∃ x : Mix.InS (fun z => z.heap[h]? = some (.cells #[.pointer (some ⟨t, 0, none⟩)] 51 (0, 0))), w' = x.w) (by kernel_rfl) (by kernel_rfl) (Mix.inS_mk (kept (Below.refl _ _).drew HH.out.box)) ?_
  have hbd : Below w.heap.size w w.drew := (Below.refl _ _).drew
  generalize w.drew = W1 at hbd ⊢
  have HH1 := Lib.hid (HH.out.below hbd)
  refine Mix.stages_cons ?_
  simp only [Mix.pickL, List.getElem?_cons_zero, List.getElem?_cons_succ]
  repeat (first
    | go_big_quiet_skip
    | (go_big_quiet_want; (go_big_quiet_op; go_big_quiet_on)))
  refine wpQuiet_nil ?_
  go_wp2_with (go_at_call 19; refine (hist_any W1 B h t room c m E HH1.out k).mono ?_; rintro e W2 ⟨rfl, hb2⟩)
  refine Mix.onward_in (kept hb2 HH1.out.box) ?_
  refine Mix.stages_cons ?_
  simp only [Mix.pickL, List.getElem?_cons_zero, List.getElem?_cons_succ]
  refine wpQuiet_nil ?_
  go_wp2_with (go_at_call 18; refine (hadd_any _ x W2 hx0 hx1).mono ?_; rintro e W3 ⟨rfl, hb3⟩)
  have hb13 := bthen' hb2 hb3
  refine Mix.onward_in (kept hb13 HH1.out.box) ?_
  have HH3 := Lib.hid (HH1.out.below hb13)
  have hs3 := (bthen' hbd hb13).size
  refine Mix.stages_cons ?_
  simp only [Mix.pickL, List.getElem?_cons_zero, List.getElem?_cons_succ]
  refine wpQuiet_nil ?_
  go_wp2_with (go_at_call 17; refine (put_any W3 B t room c m E HH3.out.tab (Nat.le_trans hB hs3) HH3.out.fits hr k (addHs (look k (rws E)) x) hbig).mono ?_; rintro e W4 ⟨s4, b4, E4, rfl, hu4, hT4, hl4, hf4, hr4⟩)
  have hbox := hu4.heap HH3.out.out HH3.out.box
  refine Mix.onward_in hbox ?_
  refine Mix.stages_nil ?_
  simp only [Mix.pickL]
  refine wpQuiet_nil ?_
  clear d0 hne
  go_wp2_with fail
  go_end0
  exact ⟨rfl, E4, (Upd.ofBelow _ (bthen' hbd hb13)).trans hu4, ⟨hbox, hT4, HH3.out.low, hf4⟩, hl4, hr4⟩

open HistLaw in
/-- What a histogram tells of a percentage. -/
def ofv (v : Hs) (p : Int) : Int := if plcOk v.1 p = true then highv (plcB v.1 p) else 0
open HistLaw in
theorem qof_any (v : Hs) (p : Int) (w : World) : Calls Try.prog 22 #[hV v, .int .i64 p] w fun e w' => e = .returned (.tuple #[.int .u64 (ofv v p), .bool (plcOk v.1 p)]) ∧ Below w.heap.size w w' := by
  cases hp : plcOk v.1 p with
  | true =>
    refine (of_yes v.1 v.2 p hp w).mono ?_
    rintro e w' ⟨rfl, hb⟩
    exact ⟨by unfold ofv; rw [hp]; rfl, hb⟩
  | false =>
    refine (of_no v.1 v.2 p hp w).mono ?_
    rintro e w' ⟨rfl, hb⟩
    exact ⟨by unfold ofv; rw [hp]; rfl, hb⟩
open HistLaw in
theorem ofv_bd (v : Hs) (p : Int) : 0 ≤ ofv v p ∧ ofv v p ≤ 18446744073709551615 := by
  unfold ofv
  split
  · exact highv_bd _
  · omega

open HistLaw in
theorem estimate_any (w : World) (B h t : Nat) (room : Int) (c m : Nat) (E : List (Ent Hs)) (H : HTab B w h t room c m E) (k : ByteArray) (p : Int) :
    Calls Try.prog 10 #[.pointer (some ⟨h, 0, none⟩), .string k, .int .i64 p] w fun e w' => e = .returned (.tuple #[.int .u64 (ofv (look k (rws E)) p), .bool (plcOk (look k (rws E)).1 p)]) ∧ Below w.heap.size w w' := by
  have KH := Lib.hid (hist_any w B h t room c m E H k)
  generalize look k (rws E) = v at KH ⊢
  have KQ := Lib.hid (fun W => qof_any v p W)
  generalize plcOk v.1 p = b at KQ ⊢
  generalize ofv v p = x at KQ ⊢
  clear H
  go_enter Try.func10, Try.ntmps10
  go_wp2_with (first
    | (go_at_call 19; refine KH.out.mono ?_; rintro e W1 ⟨rfl, hb1⟩)
    | (go_at_call 22; refine (KQ.out W1).mono ?_; rintro e W2 ⟨rfl, hb2⟩))
  go_ret2
  exact ⟨rfl, bthen' hb1 hb2⟩

end Go.Proofs.Yteifjlhkfmoljaa

