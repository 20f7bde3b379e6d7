/- A number is laid where it belongs; small questions (printed by genwhlay.py). -/
import Derived.Test.YtkbjlpdmmbldpaaWhMem
import Derived.Test.YtkbjlpdmmbldpaaTwoApp
set_option linter.unusedVariables false
set_option linter.unusedSimpArgs false
namespace Go.Proofs.Ytkbjlpdmmbldpaa
open Go.RowKit

theorem intWith : (intK 3).Ok := intK_ok Try.underlying3
theorem cel_of_row {w : World} {b : Nat} {vs : List Value} {t : TypeId} (h : w.heap[b]? = some (.cells vs.toArray t (0, 0))) : Cel w b vs := fun i v hv => by
  refine ⟨?_, by unfold World.frozen?; simp only [h]; simp⟩
  rw [cell_of_row _ b i _ t (0, 0) h]
  simpa using hv
theorem cel_of_heap {w w' : World} {b : Nat} {vs : List Value} (h : Cel w b vs) (he : w'.heap[b]? = w.heap[b]?) : Cel w' b vs := fun i v hv => by
  have := h i v hv
  unfold World.cell? World.frozen? at this ⊢
  rw [he]
  exact this
theorem cel_updP {T : Nat → Prop} {w w' : World} {b : Nat} {vs : List Value} (h : Cel w b vs) (hu : UpdP T w w') (hb : ¬ T b) (hlt : b < w.heap.size) : Cel w' b vs := cel_of_heap h (hu.block b hlt hb)

theorem now_any {T : Nat → Prop} {w : World} {p now m sm n : Nat} {rv : Nat → Value} {M S : Int → Option Value} {R : Nat → List Int} (h : WMem T w p now m sm n rv M S R) :
    Calls Try.prog 15 #[.pointer (some ⟨p, 0, none⟩)] w fun e w' => e = .returned (.int .u64 (now : Int)) ∧ w = w' := by
  have c0 := h.c0
  clear h
  go_enter Try.func15, Try.ntmps15
  go_wp2_with fail
  go_ret
  exact ⟨rfl, rfl⟩
theorem now_nil (w : World) : Calls Try.prog 15 #[.pointer none] w fun e w' => e = .returned (.int .u64 0) ∧ w = w' := by
  go_enter Try.func15, Try.ntmps15
  go_wp2_with fail
  go_ret
  exact ⟨rfl, rfl⟩
theorem at_any {T : Nat → Prop} {w : World} {p now m sm n : Nat} {rv : Nat → Value} {M S : Int → Option Value} {R : Nat → List Int} (h : WMem T w p now m sm n rv M S R) (i : Int) :
    Calls Try.prog 23 #[.pointer (some ⟨p, 0, none⟩), .int .i64 i] w fun e w' => e = .returned (.tuple #[(M i).getD (.int .u64 0), .bool (M i).isSome]) ∧ w = w' := by
  have c1 := h.c1
  have HM := Lib.hid h.ats
  clear h
  go_enter Try.func23, Try.ntmps23
  go_wp2_with (refine wl_lookupOk intWith rfl _ _ 72 22 rfl Try.underlying72 (z := .int .u64 0) (fun w => Try.zeroValue22 w) rfl HM.out i rfl ?_)
  go_ret2
  exact ⟨rfl, rfl⟩
theorem at_nil (w : World) (i : Int) : Calls Try.prog 23 #[.pointer none, .int .i64 i] w fun e w' => e = .returned (.tuple #[.int .u64 0, .bool false]) ∧ w = w' := by
  go_enter Try.func23, Try.ntmps23
  go_wp2_with fail
  go_ret2
  exact ⟨rfl, rfl⟩

theorem upd_grown {w w' : World} {b : Option Nat} (h : w.grownBy w' b) : Upd b.toList w w' :=
  ⟨h.os, h.tape, h.output, h.size, fun k hk hn => h.block k hk (fun e => hn (by simp [← e]))⟩
theorem grown_cell {w w' : World} {b : Option Nat} {k i : Nat} {v : Value} (hg : w.grownBy w' b) (hne : b ≠ some k) (hc : w.cell? ⟨k, i, none⟩ = some v) (hf : w.frozen? ⟨k, i, none⟩ = false) : w'.cell? ⟨k, i, none⟩ = some v ∧ w'.frozen? ⟨k, i, none⟩ = false := by
  have hn : k ∉ b.toList := fun hin => hne (by simpa using hin)
  exact ⟨(upd_grown hg).cell hn hc, ((upd_grown hg).frozen hn hc).trans hf⟩
def LayP (T : Nat → Prop) (w : World) (p now m sm n : Nat) (M S : Int → Option Value) (R : Nat → List Int) (id : Int) (s : Nat) (e : Ending) (w' : World) : Prop :=
  e = .returned (.tuple #[]) ∧ UpdP T w w' ∧ ∃ rv, WMem (Gr T w w') w' p now m sm n rv M (fun i => if i = id then some (spotV s) else S i) (updN R s (R s ++ [id]))

set_option maxRecDepth 100000 in
set_option maxHeartbeats 4000000 in
theorem lay_any {T : Nat → Prop} {w : World} {p now m sm n : Nat} {rv : Nat → Value} {M S : Int → Option Value} {R : Nat → List Int} (h : WMem T w p now m sm n rv M S R) (id : Int) (a : Nat) (hM : M id = some (.int .u64 (a : Int))) (ha : a < 18446744073709551616) (hnow : now < 18446744073709551616) (hlen : ∀ s, s < 96 → (R s).length ≤ 100000) :
    Calls Try.prog 46 #[.pointer (some ⟨p, 0, none⟩), .int .i64 id] w (LayP T w p now m sm n M S R id (spotN now a)) := by
  have c1 := h.c1
  have HM := Lib.hid h.ats
  have HW := Lib.hid h
  have HMI := Lib.hid (show (M id).getD (.int .u64 0) = .int .u64 (a : Int) from by rw [hM]; rfl)
  have hs := spotN_lt now a
  have kf := find_any w p now a ha hnow h.c0
  unfold FindP at kf
  have hl := hlen _ hs
  generalize spotN now a = s at hs hl kf ⊢
  obtain ⟨lv, sl, hlv6, hsl16, rfl⟩ : ∃ lv sl, lv < 6 ∧ sl < 16 ∧ s = lv * 16 + sl := ⟨s / 16, s % 16, by omega, by omega, by omega⟩
  have hsv : spotV (lv * 16 + sl) = .agg #[.int .i64 (lv : Int), .int .i64 (sl : Int)] := by
    unfold spotV
    rw [show (lv * 16 + sl) / 16 = lv from by omega, show (lv * 16 + sl) % 16 = sl from by omega]
  rw [hsv] at kf
  have HSV := Lib.hid hsv
  have KF := Lib.hid kf
  clear h hM hlen hsv kf
  go_enter Try.func46, Try.ntmps46
  go_upto_region 1 with (first
    | (refine wl_lookup intWith rfl _ _ 72 22 rfl Try.underlying72 (z := .int .u64 0) (fun w => Try.zeroValue22 w) rfl HM.out id rfl ?_; rw [HMI.out])
    | (go_at_call 66; refine KF.out.mono ?_; rintro e W1 ⟨rfl, hb1⟩)
    | (refine wpList_store_row rfl 85 _ _ rfl W1.heap.size #[.int .i64 (lv : Int), .int .i64 (sl : Int)] rfl rfl 85 #[.int .i64 0, .int .i64 0] (heap_alloc_new _ _) (spotRow _ rfl) rfl (spotOne _ _) ?_))
  show Code.wp _ _ _ _ ((W1.alloc (.cells #[.int .i64 0, .int .i64 0] 85)).setRow W1.heap.size #[.int .i64 (lv : Int), .int .i64 (sl : Int)])
  have hb2 : Below W1.heap.size W1 ((W1.alloc (.cells #[.int .i64 0, .int .i64 0] 85)).setRow W1.heap.size #[.int .i64 (lv : Int), .int .i64 (sl : Int)]) := below_row ((Below.refl _ _).alloc (Nat.le_refl _) _) (Nat.le_refl _) _
  have hx2 := setRow_heap (w := W1.alloc (.cells #[.int .i64 0, .int .i64 0] 85)) #[.int .i64 (lv : Int), .int .i64 (sl : Int)] (heap_alloc_new W1 (.cells #[.int .i64 0, .int .i64 0] 85))
  generalize (W1.alloc (.cells #[.int .i64 0, .int .i64 0] 85)).setRow W1.heap.size #[.int .i64 (lv : Int), .int .i64 (sl : Int)] = W2 at hb2 hx2 ⊢
  have hcx2 : Cel W2 W1.heap.size [.int .i64 (lv : Int), .int .i64 (sl : Int)] := cel_of_row hx2
  obtain ⟨b4, hb4⟩ : ∃ b4, b4 = W1.heap.size := ⟨_, rfl⟩
  have hnt : ¬ T b4 := fun h9 => by have := HW.out.lt b4 h9; have := hb1.size; omega
  rw [← hb4] at hcx2 ⊢
  have hlt4 : b4 < W2.heap.size := hcx2.lt (by simp)
  have hb12 := bthen' hb1 hb2
  have HX2 := Lib.hid hcx2
  have HW2 := Lib.hid (HW.out.below hb12)
  have HB2 := Lib.hid hb12
  clear hb1 hb2 hb4 hx2 hcx2 hb12 KF HM HMI c1
  obtain ⟨k2, hsp⟩ := HW2.out.spots
  have HSP := Lib.hid hsp
  have hk2 := Lib.hid (show (fun z : World => z.cell? ⟨p, 2, none⟩ = some (.map (some sm)) ∧ z.rangeAt b4 0 [.int .i64 (lv : Int), .int .i64 (sl : Int)]) W2 from ⟨HW2.out.c2, HX2.out.range⟩)
  have hneS : Nonempty (Mix.InS (fun z => z.cell? ⟨p, 2, none⟩ = some (.map (some sm)) ∧ z.rangeAt b4 0 [.int .i64 (lv : Int), .int .i64 (sl : Int)])) := ⟨⟨W2, hk2.out⟩⟩
  have d1 := fun (z : Mix.InS (fun z => z.cell? ⟨p, 2, none⟩ = some (.map (some sm)) ∧ z.rangeAt b4 0 [.int .i64 (lv : Int), .int .i64 (sl : Int)])) => z.h.1
  have RB := Lib.hid (fun (w' : World) (hx : ∃ y : Mix.InS (fun z => z.cell? ⟨p, 2, none⟩ = some (.map (some sm)) ∧ z.rangeAt b4 0 [.int .i64 (lv : Int), .int .i64 (sl : Int)]), w' = y.w) => (show w'.rangeAt b4 0 [.int .i64 (lv : Int), .int .i64 (sl : Int)] from by obtain ⟨z, rfl⟩ := hx; exact z.h.2))
  clear hsp
  try simp only [Act.put]
  refine Mix.wp_region_mix [([0, 1, 2, 3, 4, 5], 6)] [] (fun w' => ∃ x : Mix.InS (fun z => z.cell? ⟨p, 2, none⟩ = some (.map (some sm)) ∧ z.rangeAt b4 0 [.int .i64 (lv : Int), .int .i64 (sl : Int)]), w' = x.w) (by kernel_rfl) (by kernel_rfl) (Mix.inS_mk ⟨below_cell ((Below.refl _ _).drew) hk2.out.1, below_range ((Below.refl _ _).drew) hk2.out.2⟩) ?_
  have hbd : Below W2.heap.size W2 W2.drew := (Below.refl _ _).drew
  generalize W2.drew = W3 at hbd ⊢
  have HW3 := Lib.hid (HW2.out.below hbd)
  have HX3 := Lib.hid (HX2.out.below hbd)
  have HSP3 := Lib.hid (HSP.out.below hbd)
  have HB3 := Lib.hid (bthen' HB2.out hbd)
  clear HW2 HX2 HSP HB2 hk2 hbd
  refine Mix.stages_cons ?_
  simp only [Mix.pickL, List.getElem?_cons_zero, List.getElem?_cons_succ]
  repeat (first
    | go_big_quiet_skip
    | (go_big_quiet_want; first
      | (refine quiet_load_mid 85 _ rfl b4 0 rfl [.int .i64 (lv : Int), .int .i64 (sl : Int)] _ RB.out Try.underlying85 rfl (spotRow _ rfl) ?_; simp only [Act.put, List.setIfInBounds_toArray, List.set_cons_succ, List.set_cons_zero]; go_big_quiet_on)
      | (go_big_quiet_op; go_big_quiet_on)))
  refine wpQuiet_nil ?_
  go_wp2_with (refine wl_update intWith rfl _ _ _ 73 85 rfl Try.underlying73 rfl HSP3.out id rfl (.agg #[.int .i64 (lv : Int), .int .i64 (sl : Int)]) rfl ?_; intro W4 hu4 hm4)
  have hP4 : UpdP T W3 W4 := UpdP.of hu4 (fun k hk => by simp at hk; subst hk; exact .inl HW3.out.tT.2.2)
  have hlt3 : b4 < W3.heap.size := HX3.out.lt (by simp)
  have HX4 := Lib.hid (cel_updP HX3.out hP4 hnt hlt3)
  have HW4 := Lib.hid (HW3.out.setSpots hu4 hm4)
  have HU4 := Lib.hid (show UpdP T w W4 from (UpdP.ofB HB3.out).trans (by
    have := hP4
    exact ⟨this.os, this.tape, this.output, this.size, fun k hk hn => this.block k hk (fun h9 => hn (.inl h9))⟩))
  refine Mix.onward_in ⟨HW4.out.c2, HX4.out.range⟩ ?_
  clear HW3 HX3 HSP3 HB3 hu4 hm4 hP4 hlt3
  refine Mix.stages_nil ?_
  simp only [Mix.pickL]
  refine wpQuiet_nil ?_
  clear d1 RB hneS
  go_upto_region 2 with fail
  have x0 := HX4.out.get (i := 0) rfl
  have x1 := HX4.out.get (i := 1) rfl
  have d0 := fun (z : Later W4) => z.cell x0
  have d1 := fun (z : Later W4) => z.cell x1
  clear x0 x1
  try simp only [Act.put]
  refine wp_region_later (by kernel_rfl) (by kernel_rfl) (Below.refl _ _) ?_
  repeat (first
    | go_big_quiet_skip
    | (go_big_quiet_want; (go_big_quiet_op; go_big_quiet_on)))
  refine wpQuiet_nil ?_
  rintro ⟨W5, hb5⟩
  dsimp only
  clear d0 d1
  have HW5 := Lib.hid (HW4.out.below hb5)
  have HU5 := Lib.hid (show UpdP T w W5 from HU4.out.trans (UpdP.ofB hb5))
  have cr : W5.cell? ⟨p, 3 + lv * 16 + sl, none⟩ = some (rv (lv * 16 + sl)) := by rw [Nat.add_assoc]; exact HW5.out.row hs
  have fr : W5.frozen? ⟨p, 3 + lv * 16 + sl, none⟩ = false := by rw [Nat.add_assoc]; exact HW5.out.rowFree hs
  have HO5 := Lib.hid (HW5.out.each _ hs)
  clear hb5 HW4 HU4 HX4
  have HNP := Lib.hid (show (rv (lv * 16 + sl)).ownBlock ≠ some p from fun e => (HW5.out.own _ hs p e).2.1 rfl)
  have CF6 := Lib.hid (fun W (hb : Below W5.heap.size W5 W) => (show W.cell? ⟨p, 3 + lv * 16 + sl, none⟩ = some (rv (lv * 16 + sl)) ∧ W.frozen? ⟨p, 3 + lv * 16 + sl, none⟩ = false from ⟨below_cell hb cr, ((Upd.ofBelow [] hb).frozen (by simp) cr).trans fr⟩))
  go_wp2_with (first
    | (refine wl_build_rec intOk rfl _ rfl id rfl ?_; have hx6 := built_range (R := intR) (w := W5) id; have hb6 : Below W5.heap.size W5 (W5.alloc (.cells (intR.val id).cells intR.ty)) := (Below.refl _ _).alloc (Nat.le_refl _) _; generalize W5.alloc (.cells (intR.val id).cells intR.ty) = W6 at hx6 hb6 ⊢)
    | (refine wl_append_rec intOk rfl _ _ rfl 0 (rv (lv * 16 + sl)) (R (lv * 16 + sl)) rfl (HO5.out.below hb6) W5.heap.size 0 1 id rfl hx6 (by omega) (by omega) ?_; intro g cap W7 hO7 hg7 hat7; obtain ⟨c7, f7⟩ := grown_cell hg7 HNP.out (CF6.out W6 hb6).1 (CF6.out W6 hb6).2))
  go_end0
  have HW6 := HW5.out.below hb6
  have h67 := (upd_grown hg7).size
  have hw8 := HW6.setRow hs (upd_grown hg7) (fun k hk => .inl (by simpa using hk)) hO7 (fun k hk => by
    simp [Value.ownBlock] at hk
    subst hk
    rcases hat7 with h9 | h9
    · exact .inl h9
    · have := (hO7.lt g (by simp [Value.ownBlock])).2
      exact .inr ⟨by omega, this⟩)
  have hU6 := HU5.out.trans (UpdP.ofB hb6)
  have hU7 : UpdP T w W7 := hU6.trans (UpdP.of (upd_grown hg7) (fun k hk => .inl (.inl (HW6.own _ hs k (by simpa using hk)).1)))
  have hS8 : Upd [p] W7 (W7.setCell ⟨p, 3 + lv * 16 + sl, none⟩ (.slice (some ⟨g, 0, none⟩) ((R (lv * 16 + sl)).length + 1) cap)) := (Upd.refl _ _).setCell (by simp) _
  have hU8 := hU7.trans (UpdP.of hS8 (fun k hk => by simp at hk; subst hk; exact .inl (.inl HW6.tT.1)))
  rw [← Nat.add_assoc] at hw8
  have h56 := hb6.size
  have h5 := HU5.out.size
  have h8 := hS8.size
  refine ⟨rfl, hU8, updN rv (lv * 16 + sl) (.slice (some ⟨g, 0, none⟩) ((R (lv * 16 + sl)).length + 1) cap), ?_⟩
  rw [HSV.out]
  refine hw8.wider (fun k hk => ?_) (fun k hk => ?_)
  · rcases hk with h9 | h9
    · exact .inl h9
    · exact .inr ⟨by omega, by omega⟩
  · have h9 := hw8.lt
    rcases hk with h10 | h10
    · exact h9 k (.inl h10)
    · exact h10.2
end Go.Proofs.Ytkbjlpdmmbldpaa
