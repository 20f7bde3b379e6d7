/- A call, by both (printed by geninvdoes.py). -/
import Derived.Test.YtogajmbkjojdhaaInvRefB
set_option linter.unusedVariables false
set_option linter.unusedSimpArgs false
set_option maxRecDepth 100000
namespace Go.Proofs.Ytogajmbkjojdhaa
open Go.RowKit

def NB (p nm lm r k : Nat) : Prop := k = r ∨ InvB p nm lm k
/-- The program's invocations, and the document's. -/
structure HfI (w wr : World) (p nm lm r : Nat) (c : Cfg) (last : Int) (L : List Iv) (last0 : Int) (L0 : List Iv) : Prop where
  s : InvS w wr p nm lm c last L
  ref : RI (NB p nm lm r) wr r c last0 L0
  rl : w.heap.size ≤ r
  ap : r ≠ p ∧ r ≠ nm ∧ r ≠ lm
namespace HfI
variable {w wr w' : World} {p nm lm r : Nat} {c : Cfg} {last last0 last2 : Int} {L L0 L2 : List Iv}
theorem below' (h : HfI w wr p nm lm r c last L last0 L0) (hb : Below wr.heap.size wr w') : HfI w w' p nm lm r c last L last0 L0 := ⟨h.s.below' hb, h.ref.below hb, h.rl, h.ap⟩
theorem prog (h : HfI w wr p nm lm r c last L last0 L0) (hu : UpdP (InvB p nm lm) wr w') (hm : InvM w' p nm lm c last2 L2) (ho : InvOk c last2 L2) : HfI w w' p nm lm r c last2 L2 last0 L0 :=
  ⟨h.s.step hu hm ho, h.ref.updP hu (fun _ hk => .inr hk) (fun hk => by have := h.ap; rcases hk with rfl | rfl | rfl <;> simp at this), h.rl, h.ap⟩
theorem refd (h : HfI w wr p nm lm r c last L last0 L0) (hp : RP (NB p nm lm r) wr r c last2 L2 w') : HfI w w' p nm lm r c last L last2 L2 := by
  have hap := h.ap
  refine ⟨⟨hp.1.toB h.s.low h.s.low.size (fun k hk => by subst hk; exact h.rl), h.s.new, h.s.mem.updP hp.1 (fun e => hap.1 e.symm) (fun e => hap.2.1 e.symm) (fun e => hap.2.2 e.symm), h.s.ok⟩, hp.2, h.rl, h.ap⟩
/-- A row in a block that is neither's. -/
theorem lts (h : HfI w wr p nm lm r c last L last0 L0) {b : Nat} (hb : wr.heap.size ≤ b) : ¬ NB p nm lm r b := fun hk => by have := h.ref.lt b hk; omega
end HfI
theorem rowk {T : Nat → Prop} {w w' : World} {b o : Nat} {cs : List Value} (h : w.rangeAt b o cs) (hu : UpdP T w w') (hT : ¬ T b) (hb : b < w.heap.size) : w'.rangeAt b o cs := range_of_heap h (hu.block b hb hT)
theorem iv0_parts {w : World} {b : Nat} {x : Iv} (h : w.rangeAt b 0 (ivR.cells x)) : w.cell? ⟨b, 0, none⟩ = some (.int .i64 x.no) ∧ w.cell? ⟨b, 1, none⟩ = some (.int .i64 x.tn) ∧ w.cell? ⟨b, 2, none⟩ = some (.string x.nm) ∧ w.cell? ⟨b, 3, none⟩ = some (.int .i64 x.wt) ∧ w.cell? ⟨b, 4, none⟩ = some (.int .i64 x.ld) :=
  ⟨by simpa [ivR] using h 0 _ rfl, by simpa [ivR] using h 1 _ rfl, by simpa [ivR] using h 2 _ rfl, by simpa [ivR] using h 3 _ rfl, by simpa [ivR] using h 4 _ rfl⟩
theorem ia_row {w : World} {b o : Nat} {a : Ia} (h : w.rangeAt b o (iaR.cells a)) : w.rangeAt b (o + 1) (ivR.cells a.x) := fun j u hu => by
  have := h (j + 1) u (by show (ivR.cells a.x)[j]? = some u; exact hu)
  rw [show o + 1 + j = o + (j + 1) by omega]
  exact this
def sdN (c : Cfg) (last : Int) (L : List Iv) (a : Ia) : Int := if a.kind = 0 then openN c last L a.x.tn a.x.nm a.x.wt else last
def sdL (c : Cfg) (last : Int) (L : List Iv) (a : Ia) : List Iv :=
  if a.kind = 0 then openL c last L a.x.tn a.x.nm a.x.wt else if a.kind = 1 then CloseL L a.x.no else if a.kind = 2 then admitL c L a.x.no else leaveL L a.x.no
theorem sd_len {c : Cfg} {last : Int} {L : List Iv} (a : Ia) : (sdL c last L a).length ≤ L.length + 1 := by
  unfold sdL
  split
  · unfold openL; split
    · simp
    · omega
  split
  · unfold CloseL; split
    · have := List.length_filter_le (fun x => !isNo a.x.no x) L; unfold dropI; omega
    · omega
  split
  · unfold admitL; split
    · rw [more_len]; omega
    · omega
  · unfold leaveL; split
    · rw [more_len]; omega
    · omega
theorem sd_last {c : Cfg} {last : Int} {L : List Iv} (a : Ia) : sdN c last L a ≤ last + 1 := by
  unfold sdN
  split
  · unfold openN; split <;> omega
  · omega
set_option maxHeartbeats 16000000 in
theorem does31_any {w wr : World} {p nm lm r : Nat} {c : Cfg} {last : Int} {L : List Iv} (h : HfI w wr p nm lm r c last L last L) (hin : c.In w) (hcap : 0 ≤ c.cap) (a : Ia) (ha : IvIn a.x) (hL : L.length ≤ 1000) (hl : last ≤ 1000) :
    Calls Try.prog 21 #[.pointer (some ⟨p, 0, none⟩), .pointer (some ⟨r, 0, none⟩), .agg (iaR.cells a).toArray] wr fun e w' => e = .returned (.bool true) ∧ HfI w w' p nm lm r c (sdN c last L a) (sdL c last L a) (sdN c last L a) (sdL c last L a) := by
  have hcA := Cel.new wr 34 (iaR.cells a)
  have hb1 : Below wr.heap.size wr (wr.alloc (.cells (iaR.cells a).toArray 34)) := (Below.refl _ _).alloc (Nat.le_refl _) _
  obtain ⟨W1, hW1⟩ : ∃ W1, W1 = wr.alloc (.cells (iaR.cells a).toArray 34) := ⟨_, rfl⟩
  rw [← hW1] at hcA hb1
  have hr1 := ia_row hcA.range
  have k0 : W1.cell? ⟨wr.heap.size, 0, none⟩ = some (.int .i64 a.kind) := hcA.get (i := 0) rfl
  have HIN := Lib.hid hin
  have HA := Lib.hid ha
  have HH1 := Lib.hid (h.below' hb1)
  have HOK := Lib.hid h.s.ok
  have HR1 := Lib.hid hr1
  have hlo := h.s.ok.last
  clear hin ha h hcA hb1 hr1
  go_enter Try.func21, Try.ntmps21
  go_upto_region 1 with fail
  show Code.wp _ _ _ _ (wr.alloc (.cells (iaR.cells a).toArray 34))
  rw [← hW1]
  clear hW1
  go_upto_region 2 with (first
    | (refine wpList_load_mid rfl 32 _ rfl wr.heap.size 1 rfl (ivR.cells a.x) _ HR1.out Try.underlying32 rfl (ivOk.row a.x) ?_)
    | (refine wpList_store_mid rfl 32 _ _ rfl W1.heap.size 0 (ivR.cells a.x).toArray rfl rfl (freshR_there ivOk W1 a.x) (ivOk.row' a.x) (ivOk.one' a.x) ?_; show wpList _ _ _ _ _ (freshR ivR W1 a.x); have hx2 := freshR_range ivOk W1 a.x; have hb2 := freshR_below (R := ivR) W1 a.x; generalize freshR ivR W1 a.x = W2 at hx2 hb2 ⊢))
  have k0' := below_cell hb2 k0
  obtain ⟨b7, hb7⟩ : ∃ b7, b7 = W1.heap.size := ⟨_, rfl⟩
  rw [← hb7] at hx2 ⊢
  have HH2 := Lib.hid (HH1.out.below' hb2)
  have HX2 := Lib.hid hx2
  have HN7 := Lib.hid (HH1.out.lts (b := b7) (by omega))
  have hl7 : b7 < W2.heap.size := World.block_lt_of_cell? W2 _ (hx2 0 _ rfl)
  clear hb2 hx2 hb7 k0 HR1
  go_upto_region 3 with fail
  clear k0' HH1
  rcases (show a.kind = 0 ∨ (¬ a.kind = 0 ∧ a.kind = 1) ∨ (¬ a.kind = 0 ∧ ¬ a.kind = 1 ∧ a.kind = 2) ∨ (¬ a.kind = 0 ∧ ¬ a.kind = 1 ∧ ¬ a.kind = 2) from by omega) with h0 | ⟨h0, h1⟩ | ⟨h0, h1, h2⟩ | ⟨h0, h1, h2⟩
  · have eN := Lib.hid (show sdN c last L a = openN c last L a.x.tn a.x.nm a.x.wt from by unfold sdN; rw [if_pos h0])
    have eL := Lib.hid (show sdL c last L a = openL c last L a.x.tn a.x.nm a.x.wt from by unfold sdL; rw [if_pos h0])
    have e0 : (a.kind == 0) = true := by simp; omega
    have e1 : (a.kind == 1) = false := by simp; omega
    have e2 : (a.kind == 2) = false := by simp; omega
    clear h0
    have KM := Lib.hid (may_any HH2.out.s.mem (HIN.out.below HH2.out.s.low) HH2.out.s.ok a.x.tn a.x.nm a.x.wt HA.out.1 (by omega))
    unfold Chkd at KM
    obtain ⟨x0, x1, x2, x3, -⟩ := iv0_parts HX2.out
    go_upto_region 5 with (first
      | (go_at_call 17; refine (num31_any _ _).mono ?_; rintro e w' ⟨rfl, rfl⟩)
      | (go_at_call 18; refine KM.out.mono ?_; rintro e W3 ⟨rfl, hb3⟩))
    have HX3 := Lib.hid (below_range hb3 HX2.out)
    have HH3 := Lib.hid (HH2.out.below' hb3)
    have hl3 : b7 < W3.heap.size := Nat.lt_of_lt_of_le hl7 hb3.size
    clear x0 x1 x2 x3 hb3 KM
    obtain ⟨x0, x1, x2, x3, -⟩ := iv0_parts HX3.out
    have KO := Lib.hid (open_any HH3.out.s.mem (HIN.out.below HH3.out.s.low) HH3.out.s.ok a.x.tn a.x.nm a.x.wt HA.out.1 (by omega) (by omega))
    unfold OpenP at KO
    go_upto_region 6 with (go_at_call 10; refine KO.out.mono ?_; rintro e W4 ⟨rfl, hu4, hm4⟩)
    have HX4 := Lib.hid (rowk HX3.out hu4 (fun h9 => HN7.out (.inr h9)) hl3)
    have HH4 := Lib.hid (HH3.out.prog hu4 hm4 (HOK.out.open hcap _ _ _ HA.out.1 (by omega)))
    clear x0 x1 x2 x3 hu4 hm4 KO
    obtain ⟨x0, x1, x2, x3, -⟩ := iv0_parts HX4.out
    have KR := Lib.hid (ropen_any HH4.out.ref (HIN.out.below HH4.out.s.low) HOK.out a.x.tn a.x.nm a.x.wt HA.out.1 (by omega) (by omega))
    unfold ROpenP at KR
    go_upto_region 7 with (go_at_call 33; refine KR.out.mono ?_; rintro e W5 ⟨rfl, hp5⟩)
    have HH9 := Lib.hid (HH4.out.refd hp5)
    clear x0 x1 x2 x3 hp5 KR
    go_wp2_with (go_at_call 17; refine (num31_any _ _).mono ?_; rintro e w' ⟨rfl, rfl⟩)
    go_ret
    exact ⟨by first | rfl | simp, by rw [eN.out, eL.out]; exact HH9.out⟩
  · have eN := Lib.hid (show sdN c last L a = last from by unfold sdN; rw [if_neg h0])
    have eL := Lib.hid (show sdL c last L a = CloseL L a.x.no from by unfold sdL; rw [if_neg h0]; rw [if_pos h1])
    have e0 : (a.kind == 0) = false := by simp; omega
    have e1 : (a.kind == 1) = true := by simp; omega
    have e2 : (a.kind == 2) = false := by simp; omega
    clear h0 h1
    go_upto_region 9 with fail
    have hxd : W2.drew.rangeAt b7 0 (ivR.cells a.x) := below_range (Below.refl _ _).drew HX2.out
    have HD := Lib.hid (HH2.out.below' (Below.refl _ _).drew)
    have hl7d : b7 < W2.drew.heap.size := hl7
    have hne : Nonempty (Mix.InS (fun z => z.rangeAt b7 0 (ivR.cells a.x))) := ⟨⟨W2, HX2.out⟩⟩
    have dn := fun (z : Mix.InS (fun z => z.rangeAt b7 0 (ivR.cells a.x))) => (iv0_parts z.h).1
    have HXD := Lib.hid hxd
    refine Mix.wp_region_mix [([0, 1, 2, 5, 6, 7], 3), ([], 4), ([], 8)] [9, 10] (fun w' => ∃ x : Mix.InS (fun z => z.rangeAt b7 0 (ivR.cells a.x)), w' = x.w) (by kernel_rfl) (by kernel_rfl) (Mix.inS_mk HXD.out) ?_
    generalize W2.drew = W3 at hxd HD hl7d HXD ⊢
    have KC := Lib.hid (close_any HD.out.s.mem HD.out.s.ok a.x.no)
    clear HX2 HH2 hxd
    refine Mix.stages_cons ?_
    simp only [Mix.pickL, List.getElem?_cons_zero, List.getElem?_cons_succ]
    repeat (first
      | go_big_quiet_skip
      | (go_big_quiet_want; (go_big_quiet_op; go_big_quiet_on)))
    refine wpQuiet_nil ?_
    go_wp2_with (go_at_call 12; refine KC.out.mono ?_; rintro e W4 ⟨rfl, hu4, hm4⟩)
    have hx4 := rowk HXD.out hu4 (fun h9 => HN7.out (.inr h9)) hl7d
    have hl4 : b7 < W4.heap.size := Nat.lt_of_lt_of_le hl7d hu4.size
    have HH4 := Lib.hid (HD.out.prog hu4 hm4 (CloseL.ok HOK.out _))
    clear hu4 hm4 KC HD HXD
    have HX4 := Lib.hid hx4
    refine Mix.onward_in HX4.out ?_
    refine Mix.stages_cons ?_
    simp only [Mix.pickL, List.getElem?_cons_zero, List.getElem?_cons_succ]
    refine wpQuiet_nil ?_
    go_wp2_with (go_at_call 17; refine (num31_any _ _).mono ?_; rintro e w' ⟨rfl, rfl⟩)
    refine Mix.onward_in HX4.out ?_
    refine Mix.stages_cons ?_
    simp only [Mix.pickL, List.getElem?_cons_zero, List.getElem?_cons_succ]
    refine wpQuiet_nil ?_
    have KR := Lib.hid (rclose_any HH4.out.ref HOK.out.asc (by omega) a.x.no)
    clear hx4
    go_wp2_with (go_at_call 34; refine KR.out.mono ?_; rintro e W5 ⟨rfl, hp5⟩)
    have hx5 := rowk HX4.out hp5.1 (fun h9 => HN7.out (.inl h9)) hl4
    have HH9 := Lib.hid (HH4.out.refd hp5)
    clear hp5 KR HH4 HX4
    refine Mix.onward_in hx5 ?_
    refine Mix.stages_nil ?_
    simp only [Mix.pickL, List.getElem?_cons_zero, List.getElem?_cons_succ]
    repeat (first
      | go_big_quiet_skip
      | (go_big_quiet_want; (go_big_quiet_op; go_big_quiet_on)))
    refine wpQuiet_nil ?_
    clear dn hne hx5
    go_wp2_with fail
    go_ret
    exact ⟨by first | rfl | simp, by rw [eN.out, eL.out]; exact HH9.out⟩
  · have eN := Lib.hid (show sdN c last L a = last from by unfold sdN; rw [if_neg h0])
    have eL := Lib.hid (show sdL c last L a = admitL c L a.x.no from by unfold sdL; rw [if_neg h0]; rw [if_neg h1]; rw [if_pos h2])
    have e0 : (a.kind == 0) = false := by simp; omega
    have e1 : (a.kind == 1) = false := by simp; omega
    have e2 : (a.kind == 2) = true := by simp; omega
    clear h0 h1 h2
    go_upto_region 11 with fail
    have HD := Lib.hid (HH2.out.below' (Below.refl _ _).drew)
    have hl7d : b7 < W2.drew.heap.size := hl7
    obtain ⟨vr, hcv, hrv⟩ := HD.out.ref.mem
    have hxd : W2.drew.rangeAt b7 0 (ivR.cells a.x) ∧ W2.drew.rangeAt r 0 (refCells c last vr) := ⟨below_range (Below.refl _ _).drew HX2.out, hcv.range⟩
    have hne : Nonempty (Mix.InS (fun z => z.rangeAt b7 0 (ivR.cells a.x) ∧ z.rangeAt r 0 (refCells c last vr))) := ⟨⟨W2.drew, hxd⟩⟩
    have dn := fun (z : Mix.InS (fun z => z.rangeAt b7 0 (ivR.cells a.x) ∧ z.rangeAt r 0 (refCells c last vr))) => (iv0_parts z.h.1).1
    have RC := Lib.hid (fun (w' : World) (hx : ∃ x : Mix.InS (fun z => z.rangeAt b7 0 (ivR.cells a.x) ∧ z.rangeAt r 0 (refCells c last vr)), w' = x.w) => (show w'.rangeAt r 0 (refCells c last vr) from by obtain ⟨z, rfl⟩ := hx; exact z.h.2))
    have HXD := Lib.hid hxd
    have HRV := Lib.hid hrv
    refine Mix.wp_region_mix_tail 21 [([0, 1, 2, 5, 6, 7, 8, 9], 3), ([], 4), ([], 10), ([11, 12, 13, 14, 15, 18, 19, 20], 16), ([], 17)] [] (fun w' => ∃ x : Mix.InS (fun z => z.rangeAt b7 0 (ivR.cells a.x) ∧ z.rangeAt r 0 (refCells c last vr)), w' = x.w) (by kernel_rfl) (by kernel_rfl) (Mix.inS_mk HXD.out) ?_
    simp only [List.take_succ_cons, List.take_zero, List.drop_succ_cons, List.drop_zero]
    generalize W2.drew = W3 at hxd HD hl7d HXD HRV hcv hrv hne ⊢
    have KC := Lib.hid (room_any HD.out.s.mem (HIN.out.below HD.out.s.low) HD.out.s.ok a.x.no (by omega))
    unfold Chkd at KC
    clear HX2 HH2 hxd hcv hrv
    refine Mix.stages_cons ?_
    simp only [Mix.pickL, List.getElem?_cons_zero, List.getElem?_cons_succ]
    repeat (first
      | go_big_quiet_skip
      | (go_big_quiet_want; first
        | (refine quiet_load_mid 53 _ rfl r 0 rfl (refCells c last vr) _ RC.out Try.underlying53 rfl (vRow c last _) ?_; simp only [Act.put, List.setIfInBounds_toArray, List.set_cons_succ, List.set_cons_zero]; go_big_quiet_on)
        | (go_big_quiet_op; go_big_quiet_on)))
    refine wpQuiet_nil ?_
    go_wp2_with (go_at_call 19; refine KC.out.mono ?_; rintro e W4 ⟨rfl, hb4⟩)
    have hx4 : W4.rangeAt b7 0 (ivR.cells a.x) ∧ W4.rangeAt r 0 (refCells c last vr) := ⟨below_range hb4 HXD.out.1, below_range hb4 HXD.out.2⟩
    have HX4 := Lib.hid hx4
    have hl4 : b7 < W4.heap.size := Nat.lt_of_lt_of_le hl7d hb4.size
    have HH4 := Lib.hid (HD.out.below' hb4)
    have HRV4 := Lib.hid (HRV.out.updP (T := fun _ => False) (UpdP.ofB hb4) fun _ hk => hk.elim)
    clear hb4 KC HD HXD hx4 HRV
    refine Mix.onward_in HX4.out ?_
    refine Mix.stages_cons ?_
    simp only [Mix.pickL, List.getElem?_cons_zero, List.getElem?_cons_succ]
    refine wpQuiet_nil ?_
    go_wp2_with (go_at_call 17; refine (num31_any _ _).mono ?_; rintro e w' ⟨rfl, rfl⟩)
    refine Mix.onward_in HX4.out ?_
    refine Mix.stages_cons ?_
    simp only [Mix.pickL, List.getElem?_cons_zero, List.getElem?_cons_succ]
    refine wpQuiet_nil ?_
    have KR := Lib.hid (rroom_any W4 c (HIN.out.below HH4.out.s.low) last vr L HRV4.out.reads HOK.out (by omega) a.x.no)
    go_wp2_with (go_at_call 35; refine KR.out.mono ?_; rintro e W5 ⟨rfl, hb5⟩)
    have hx5 : W5.rangeAt b7 0 (ivR.cells a.x) ∧ W5.rangeAt r 0 (refCells c last vr) := ⟨below_range hb5 HX4.out.1, below_range hb5 HX4.out.2⟩
    have HX5 := Lib.hid hx5
    have hl5 : b7 < W5.heap.size := Nat.lt_of_lt_of_le hl4 hb5.size
    have HH5 := Lib.hid (HH4.out.below' hb5)
    have KA := Lib.hid (admit_any HH5.out.s.mem (HIN.out.below HH5.out.s.low) HH5.out.s.ok a.x.no (by omega))
    clear hb5 KR HH4 HX4 hx5 HRV4
    refine Mix.onward_in HX5.out ?_
    refine Mix.stages_cons ?_
    simp only [Mix.pickL, List.getElem?_cons_zero, List.getElem?_cons_succ]
    repeat (first
      | go_big_quiet_skip
      | (go_big_quiet_want; (go_big_quiet_op; go_big_quiet_on)))
    refine wpQuiet_nil ?_
    go_wp2_with (go_at_call 13; refine KA.out.mono ?_; rintro e W6 ⟨rfl, hu6, hm6⟩)
    have hap := HH5.out.ap
    have hx6 : W6.rangeAt b7 0 (ivR.cells a.x) ∧ W6.rangeAt r 0 (refCells c last vr) := ⟨rowk HX5.out.1 hu6 (fun h9 => HN7.out (.inr h9)) hl5, rowk HX5.out.2 hu6 (fun h9 => by rcases h9 with h9 | h9 | h9; exact hap.1 h9; exact hap.2.1 h9; exact hap.2.2 h9) (HH5.out.ref.lt r (.inl rfl))⟩
    have HX6 := Lib.hid hx6
    have HH6 := Lib.hid (HH5.out.prog hu6 hm6 (HOK.out.admits _))
    clear hu6 hm6 KA HH5 HX5 hx6
    refine Mix.onward_in HX6.out ?_
    refine Mix.stages_cons ?_
    simp only [Mix.pickL, List.getElem?_cons_zero, List.getElem?_cons_succ]
    refine wpQuiet_nil ?_
    go_wp2_with (go_at_call 17; refine (num31_any _ _).mono ?_; rintro e w' ⟨rfl, rfl⟩)
    refine Mix.onward_in HX6.out ?_
    refine Mix.stages_nil ?_
    simp only [Mix.pickL]
    refine wpQuiet_nil ?_
    have KRA := Lib.hid (radmit_any HH6.out.ref (HIN.out.below HH6.out.s.low) HOK.out (by omega) a.x.no)
    clear dn RC hne HX6
    go_wp2_with (go_at_call 36; refine KRA.out.mono ?_; rintro e W7 ⟨rfl, hp7⟩)
    simp only [Mix.OnlyN]
    have HH9 := Lib.hid (HH6.out.refd hp7)
    clear hp7 KRA HH6
    go_wp2_with fail
    go_ret
    exact ⟨by first | rfl | simp, by rw [eN.out, eL.out]; exact HH9.out⟩
  · have eN := Lib.hid (show sdN c last L a = last from by unfold sdN; rw [if_neg h0])
    have eL := Lib.hid (show sdL c last L a = leaveL L a.x.no from by unfold sdL; rw [if_neg h0]; rw [if_neg h1]; rw [if_neg h2])
    have e0 : (a.kind == 0) = false := by simp; omega
    have e1 : (a.kind == 1) = false := by simp; omega
    have e2 : (a.kind == 2) = false := by simp; omega
    clear h0 h1 h2
    go_upto_region 12 with fail
    have hxd : W2.drew.rangeAt b7 0 (ivR.cells a.x) := below_range (Below.refl _ _).drew HX2.out
    have HD := Lib.hid (HH2.out.below' (Below.refl _ _).drew)
    have hl7d : b7 < W2.drew.heap.size := hl7
    have hne : Nonempty (Mix.InS (fun z => z.rangeAt b7 0 (ivR.cells a.x))) := ⟨⟨W2, HX2.out⟩⟩
    have dn := fun (z : Mix.InS (fun z => z.rangeAt b7 0 (ivR.cells a.x))) => (iv0_parts z.h).1
    have HXD := Lib.hid hxd
    refine Mix.wp_region_mix [([0, 1, 2, 4, 5, 6], 3), ([], 7)] [8, 9] (fun w' => ∃ x : Mix.InS (fun z => z.rangeAt b7 0 (ivR.cells a.x)), w' = x.w) (by kernel_rfl) (by kernel_rfl) (Mix.inS_mk HXD.out) ?_
    generalize W2.drew = W3 at hxd HD hl7d HXD ⊢
    have KC := Lib.hid (leave_any HD.out.s.mem HD.out.s.ok a.x.no)
    clear HX2 HH2 hxd
    refine Mix.stages_cons ?_
    simp only [Mix.pickL, List.getElem?_cons_zero, List.getElem?_cons_succ]
    repeat (first
      | go_big_quiet_skip
      | (go_big_quiet_want; (go_big_quiet_op; go_big_quiet_on)))
    refine wpQuiet_nil ?_
    go_wp2_with (go_at_call 14; refine KC.out.mono ?_; rintro e W4 ⟨rfl, hu4, hm4⟩)
    have hx4 := rowk HXD.out hu4 (fun h9 => HN7.out (.inr h9)) hl7d
    have hl4 : b7 < W4.heap.size := Nat.lt_of_lt_of_le hl7d hu4.size
    have HH4 := Lib.hid (HD.out.prog hu4 hm4 (HOK.out.leave _))
    clear hu4 hm4 KC HD HXD
    have HX4 := Lib.hid hx4
    refine Mix.onward_in HX4.out ?_
    refine Mix.stages_cons ?_
    simp only [Mix.pickL, List.getElem?_cons_zero, List.getElem?_cons_succ]
    refine wpQuiet_nil ?_
    have KR := Lib.hid (rleave_any HH4.out.ref HOK.out (by omega) a.x.no)
    clear hx4
    go_wp2_with (go_at_call 37; refine KR.out.mono ?_; rintro e W5 ⟨rfl, hp5⟩)
    have hx5 := rowk HX4.out hp5.1 (fun h9 => HN7.out (.inl h9)) hl4
    have HH9 := Lib.hid (HH4.out.refd hp5)
    clear hp5 KR HH4 HX4
    refine Mix.onward_in hx5 ?_
    refine Mix.stages_nil ?_
    simp only [Mix.pickL, List.getElem?_cons_zero, List.getElem?_cons_succ]
    repeat (first
      | go_big_quiet_skip
      | (go_big_quiet_want; (go_big_quiet_op; go_big_quiet_on)))
    refine wpQuiet_nil ?_
    clear dn hne hx5
    go_wp2_with fail
    go_ret
    exact ⟨by first | rfl | simp, by rw [eN.out, eL.out]; exact HH9.out⟩
end Go.Proofs.Ytogajmbkjojdhaa
