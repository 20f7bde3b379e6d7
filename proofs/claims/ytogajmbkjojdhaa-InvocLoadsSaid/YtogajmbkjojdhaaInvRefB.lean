/- Merged of InvRefR InvRefA InvRefO. -/
import Derived.Test.YtogajmbkjojdhaaInvRefW

/-! The document's Room, turn, Admit, Leave (printed by geninvrefr.py). -/
set_option linter.unusedVariables false
set_option linter.unusedSimpArgs false
set_option maxRecDepth 100000
namespace Go.Proofs.Ytogajmbkjojdhaa
open Go.RowKit

set_option maxHeartbeats 8000000 in
theorem rroom_any (w : World) (c : Cfg) (hin : c.In w) (last : Int) (v : Value) (L : List Iv) (hv : Reads ivR w v L) (ho : InvOk c last L) (hL : L.length ≤ 100000) (n : Int) :
    Calls Try.prog 35 #[.agg (refCells c last v).toArray, .int .i64 n] w fun e w' => e = .returned (.int .i64 (roomI c L n)) ∧ Below w.heap.size w w' := by
  obtain ⟨av, capv, rfl⟩ := hv.form
  have hA := Cel.new w 53 (refCells c last (.slice av L.length capv))
  have hb1 : Below w.heap.size w (w.alloc (.cells (refCells c last (.slice av L.length capv)).toArray 53)) := (Below.refl _ _).alloc (Nat.le_refl _) _
  obtain ⟨W1, hW1⟩ : ∃ W1, W1 = w.alloc (.cells (refCells c last (.slice av L.length capv)).toArray 53) := ⟨_, rfl⟩
  rw [← hW1] at hA hb1
  have HR := Lib.hid hA.range
  have HB1 := Lib.hid hb1
  have KN := Lib.hid (rno_any W1 c last _ L (hv.below hb1) hL n)
  rcases ixB_cases (isNo n) L with ⟨h1, h2⟩ | ⟨k, x, h1, hx, h3⟩
  · have e1 : roomI c L n = 7 := by unfold roomI; rw [show fNo L n = none from h2]
    rw [e1]
    rw [h1] at KN
    clear hv hA hb1 hin ho h1 h2 e1
    go_enter Try.func35, Try.ntmps35
    go_upto_region 1 with fail
    show Code.wp _ _ _ _ (w.alloc (.cells (refCells c last (.slice av L.length capv)).toArray 53))
    rw [← hW1]
    clear hW1
    go_wp2_with (first
      | (refine wpList_load_mid rfl 53 _ rfl w.heap.size 0 rfl (refCells c last _) _ HR.out Try.underlying53 rfl (vRow c last _) ?_)
      | (go_at_call 40; refine KN.out.mono ?_; rintro e W2 ⟨rfl, hb2⟩))
    go_ret
    exact ⟨rfl, bthen' HB1.out hb2⟩
  · obtain ⟨hxL, hxn⟩ := fNo_mem (show fNo L n = some x from h3)
    obtain ⟨ht0, ht1⟩ := ho.tens x hxL
    obtain ⟨m, hm⟩ : ∃ m : Nat, x.tn = (m : Int) := ⟨x.tn.toNat, by omega⟩
    obtain ⟨T0, hT0⟩ : ∃ T0, c.T[m]? = some T0 := ⟨_, List.getElem?_eq_getElem (by omega)⟩
    have hml : m < c.T.length := (List.getElem?_eq_some_iff.1 hT0).1
    have hkl : k < L.length := (List.getElem?_eq_some_iff.1 hx).1
    have hq : quota c x.tn = T0.q := by unfold quota; rw [hm, Int.toNat_natCast, hT0]
    have eC := Lib.hid (show roomI c L n = if T0.q ≤ loadT L x.tn then 12 else if c.cap ≤ x.ld then 13 else 0 from by unfold roomI; rw [show fNo L n = some x from h3]; show (if quota c x.tn ≤ _ then _ else _) = _; rw [hq])
    rw [eC.out, hm]
    rw [h1] at KN
    have HX := Lib.hid (fun (W : World) (hb : Below w.heap.size w W) => (hv.below hb).at hx)
    have HT := Lib.hid (fun (W : World) (hb : Below w.heap.size w W) => show ∃ at' capt bt ot, c.tv = .slice (some ⟨bt, ot, none⟩) c.T.length capt ∧ W.cell? ⟨bt, ot + m * 3 + 2, none⟩ = some (.int .i64 T0.q) ∧ at' = bt from by
      obtain ⟨at', capt, hvt⟩ := hin.t.form
      have htr := (hin.below hb).t
      rw [hvt] at htr
      obtain ⟨bt, ot, hct, hrt⟩ := htr.at hT0
      subst hct
      exact ⟨bt, capt, bt, ot, hvt, ten_q hrt, rfl⟩)
    have KL := Lib.hid (fun (W : World) (hb : Below w.heap.size w W) => rload_any W c last _ L (hv.below hb) hL x.tn (LdI.bound ho hL x.tn))
    rw [hm] at KL
    have HA := Lib.hid hA
    have hm' := Lib.hid hm
    clear hv hA hb1 hin ho h1 hx h3 hxL hxn ht0 ht1 hT0 hq eC hm
    by_cases h1 : T0.q ≤ loadT L (m : Int)
    · rw [if_pos h1]
      have q1 : decide (T0.q ≤ loadT L (m : Int)) = true := by simp; omega
      have q1' : decide (loadT L (m : Int) ≥ T0.q) = true := by simp; omega
      clear h1
      go_enter Try.func35, Try.ntmps35
      go_upto_region 1 with fail
      show Code.wp _ _ _ _ (w.alloc (.cells (refCells c last (.slice av L.length capv)).toArray 53))
      rw [← hW1]
      clear hW1
      go_upto_region 4 with (first
        | (refine wpList_load_mid rfl 53 _ rfl w.heap.size 0 rfl (refCells c last _) _ HR.out Try.underlying53 rfl (vRow c last _) ?_)
        | (go_at_call 40; refine KN.out.mono ?_; rintro e W2 ⟨rfl, hb2⟩))
      obtain ⟨b, off, rfl, hrx⟩ := HX.out _ (bthen' HB1.out hb2)
      obtain ⟨q, hq⟩ : ∃ q, q = w.heap.size := ⟨_, rfl⟩
      rw [← hq] at HA HR ⊢
      have HA2 := Lib.hid (HA.out.below hb2)
      have HB2 := Lib.hid (bthen' HB1.out hb2)
      have HRX := Lib.hid hrx
      have c20 := HA2.out.get (i := 20) rfl
      clear hb2 hq KN HR HA hrx
      go_upto_region 5 with (first
        | (refine wpList_load_mid rfl 32 _ rfl b (off + k * ivR.n) rfl (ivR.cells x) _ HRX.out Try.underlying32 rfl (ivOk.row x) ?_)
        | (refine wpList_store_mid rfl 32 _ _ rfl W2.heap.size 0 (ivR.cells x).toArray rfl rfl (freshR_there ivOk W2 x) (ivOk.row' x) (ivOk.one' x) ?_; show wpList _ _ _ _ _ (freshR ivR W2 x); have hx3 := freshR_range ivOk W2 x; have hb3 := freshR_below (R := ivR) W2 x; generalize freshR ivR W2 x = W3 at hx3 hb3 ⊢))
      obtain ⟨b5, hb5⟩ : ∃ b5, b5 = W2.heap.size := ⟨_, rfl⟩
      rw [← hb5] at hx3 ⊢
      obtain ⟨-, r1, -, -, r4⟩ := iv_parts hx3
      have r1' : W3.cell? ⟨b5, 1, none⟩ = some (.int .i64 (m : Int)) := by rw [r1, hm'.out]
      have HB3 := Lib.hid (bthen' HB2.out hb3)
      obtain ⟨at', capt, bt, ot, hvt, gq, -⟩ := HT.out _ HB3.out
      have HA3 := Lib.hid (HA2.out.below hb3)
      have g0 := HA3.out.get (i := 0) rfl
      rw [hvt] at g0
      have d1 := fun (z : Later W3) => z.cell r1'
      have d0 := fun (z : Later W3) => z.cell g0
      have dq := fun (z : Later W3) => z.cell gq
      have HR4 := Lib.hid r4
      have RC := Lib.hid (fun (w' : World) (h : ∃ z : Later W3, w' = z.w) => (show w'.rangeAt q 0 (refCells c last (.slice (some ⟨b, off, none⟩) L.length capv)) from by obtain ⟨zz, rfl⟩ := h; exact below_range zz.h HA3.out.range))
      have KL3 := Lib.hid (fun (W : World) (hb : Below W3.heap.size W3 W) => KL.out W (bthen' HB3.out hb))
      clear r1 r1' g0 gq hx3 hb3 c20 hb5 KL r4 hvt HT HX HRX HA2 hm'
      (try simp only [Act.put])
      refine wp_region_later (by kernel_rfl) (by kernel_rfl) (Below.refl _ _) ?_
      repeat (first
        | go_big_quiet_skip
        | (go_big_quiet_want; first
          | (refine quiet_load_mid 53 _ rfl q 0 rfl (refCells c last (.slice (some ⟨b, off, none⟩) L.length capv)) _ RC.out Try.underlying53 rfl (vRow c last _) ?_; simp only [Act.put, List.setIfInBounds_toArray, List.set_cons_succ, List.set_cons_zero]; go_big_quiet_on)
          | (go_big_quiet_op; first | go_big_quiet_on | go_big_quiet_call ((go_at_call 41; exact Calls.later (KL3.out _ (Later.h _)))))))
      refine wpQuiet_nil ?_
      rintro ⟨W4, hb4⟩
      dsimp only
      clear d1 d0 dq RC KL3
      go_wp2_with fail
      go_ret
      exact ⟨rfl, bthen' HB3.out hb4⟩
    · rw [if_neg h1]
      have q1 : decide (T0.q ≤ loadT L (m : Int)) = false := by simp; omega
      have q1' : decide (loadT L (m : Int) ≥ T0.q) = false := by simp; omega
      clear h1
      by_cases h2 : c.cap ≤ x.ld
      · rw [if_pos h2]
        have q3 : decide (c.cap ≤ x.ld) = true := by simp; omega
        have q3' : decide (x.ld ≥ c.cap) = true := by simp; omega
        clear h2
        go_enter Try.func35, Try.ntmps35
        go_upto_region 1 with fail
        show Code.wp _ _ _ _ (w.alloc (.cells (refCells c last (.slice av L.length capv)).toArray 53))
        rw [← hW1]
        clear hW1
        go_upto_region 4 with (first
          | (refine wpList_load_mid rfl 53 _ rfl w.heap.size 0 rfl (refCells c last _) _ HR.out Try.underlying53 rfl (vRow c last _) ?_)
          | (go_at_call 40; refine KN.out.mono ?_; rintro e W2 ⟨rfl, hb2⟩))
        obtain ⟨b, off, rfl, hrx⟩ := HX.out _ (bthen' HB1.out hb2)
        obtain ⟨q, hq⟩ : ∃ q, q = w.heap.size := ⟨_, rfl⟩
        rw [← hq] at HA HR ⊢
        have HA2 := Lib.hid (HA.out.below hb2)
        have HB2 := Lib.hid (bthen' HB1.out hb2)
        have HRX := Lib.hid hrx
        have c20 := HA2.out.get (i := 20) rfl
        clear hb2 hq KN HR HA hrx
        go_upto_region 5 with (first
          | (refine wpList_load_mid rfl 32 _ rfl b (off + k * ivR.n) rfl (ivR.cells x) _ HRX.out Try.underlying32 rfl (ivOk.row x) ?_)
          | (refine wpList_store_mid rfl 32 _ _ rfl W2.heap.size 0 (ivR.cells x).toArray rfl rfl (freshR_there ivOk W2 x) (ivOk.row' x) (ivOk.one' x) ?_; show wpList _ _ _ _ _ (freshR ivR W2 x); have hx3 := freshR_range ivOk W2 x; have hb3 := freshR_below (R := ivR) W2 x; generalize freshR ivR W2 x = W3 at hx3 hb3 ⊢))
        obtain ⟨b5, hb5⟩ : ∃ b5, b5 = W2.heap.size := ⟨_, rfl⟩
        rw [← hb5] at hx3 ⊢
        obtain ⟨-, r1, -, -, r4⟩ := iv_parts hx3
        have r1' : W3.cell? ⟨b5, 1, none⟩ = some (.int .i64 (m : Int)) := by rw [r1, hm'.out]
        have HB3 := Lib.hid (bthen' HB2.out hb3)
        obtain ⟨at', capt, bt, ot, hvt, gq, -⟩ := HT.out _ HB3.out
        have HA3 := Lib.hid (HA2.out.below hb3)
        have g0 := HA3.out.get (i := 0) rfl
        rw [hvt] at g0
        have d1 := fun (z : Later W3) => z.cell r1'
        have d0 := fun (z : Later W3) => z.cell g0
        have dq := fun (z : Later W3) => z.cell gq
        have HR4 := Lib.hid r4
        have RC := Lib.hid (fun (w' : World) (h : ∃ z : Later W3, w' = z.w) => (show w'.rangeAt q 0 (refCells c last (.slice (some ⟨b, off, none⟩) L.length capv)) from by obtain ⟨zz, rfl⟩ := h; exact below_range zz.h HA3.out.range))
        have KL3 := Lib.hid (fun (W : World) (hb : Below W3.heap.size W3 W) => KL.out W (bthen' HB3.out hb))
        clear r1 r1' g0 gq hx3 hb3 c20 hb5 KL r4 hvt HT HX HRX HA2 hm'
        (try simp only [Act.put])
        refine wp_region_later (by kernel_rfl) (by kernel_rfl) (Below.refl _ _) ?_
        repeat (first
          | go_big_quiet_skip
          | (go_big_quiet_want; first
            | (refine quiet_load_mid 53 _ rfl q 0 rfl (refCells c last (.slice (some ⟨b, off, none⟩) L.length capv)) _ RC.out Try.underlying53 rfl (vRow c last _) ?_; simp only [Act.put, List.setIfInBounds_toArray, List.set_cons_succ, List.set_cons_zero]; go_big_quiet_on)
            | (go_big_quiet_op; first | go_big_quiet_on | go_big_quiet_call ((go_at_call 41; exact Calls.later (KL3.out _ (Later.h _)))))))
        refine wpQuiet_nil ?_
        rintro ⟨W4, hb4⟩
        dsimp only
        clear d1 d0 dq RC KL3
        have r4b := below_cell hb4 HR4.out
        have g4b := (HA3.out.below hb4).get (i := 4) rfl
        go_wp2_with fail
        go_ret
        exact ⟨rfl, bthen' HB3.out hb4⟩
      · rw [if_neg h2]
        have q3 : decide (c.cap ≤ x.ld) = false := by simp; omega
        have q3' : decide (x.ld ≥ c.cap) = false := by simp; omega
        clear h2
        go_enter Try.func35, Try.ntmps35
        go_upto_region 1 with fail
        show Code.wp _ _ _ _ (w.alloc (.cells (refCells c last (.slice av L.length capv)).toArray 53))
        rw [← hW1]
        clear hW1
        go_upto_region 4 with (first
          | (refine wpList_load_mid rfl 53 _ rfl w.heap.size 0 rfl (refCells c last _) _ HR.out Try.underlying53 rfl (vRow c last _) ?_)
          | (go_at_call 40; refine KN.out.mono ?_; rintro e W2 ⟨rfl, hb2⟩))
        obtain ⟨b, off, rfl, hrx⟩ := HX.out _ (bthen' HB1.out hb2)
        obtain ⟨q, hq⟩ : ∃ q, q = w.heap.size := ⟨_, rfl⟩
        rw [← hq] at HA HR ⊢
        have HA2 := Lib.hid (HA.out.below hb2)
        have HB2 := Lib.hid (bthen' HB1.out hb2)
        have HRX := Lib.hid hrx
        have c20 := HA2.out.get (i := 20) rfl
        clear hb2 hq KN HR HA hrx
        go_upto_region 5 with (first
          | (refine wpList_load_mid rfl 32 _ rfl b (off + k * ivR.n) rfl (ivR.cells x) _ HRX.out Try.underlying32 rfl (ivOk.row x) ?_)
          | (refine wpList_store_mid rfl 32 _ _ rfl W2.heap.size 0 (ivR.cells x).toArray rfl rfl (freshR_there ivOk W2 x) (ivOk.row' x) (ivOk.one' x) ?_; show wpList _ _ _ _ _ (freshR ivR W2 x); have hx3 := freshR_range ivOk W2 x; have hb3 := freshR_below (R := ivR) W2 x; generalize freshR ivR W2 x = W3 at hx3 hb3 ⊢))
        obtain ⟨b5, hb5⟩ : ∃ b5, b5 = W2.heap.size := ⟨_, rfl⟩
        rw [← hb5] at hx3 ⊢
        obtain ⟨-, r1, -, -, r4⟩ := iv_parts hx3
        have r1' : W3.cell? ⟨b5, 1, none⟩ = some (.int .i64 (m : Int)) := by rw [r1, hm'.out]
        have HB3 := Lib.hid (bthen' HB2.out hb3)
        obtain ⟨at', capt, bt, ot, hvt, gq, -⟩ := HT.out _ HB3.out
        have HA3 := Lib.hid (HA2.out.below hb3)
        have g0 := HA3.out.get (i := 0) rfl
        rw [hvt] at g0
        have d1 := fun (z : Later W3) => z.cell r1'
        have d0 := fun (z : Later W3) => z.cell g0
        have dq := fun (z : Later W3) => z.cell gq
        have HR4 := Lib.hid r4
        have RC := Lib.hid (fun (w' : World) (h : ∃ z : Later W3, w' = z.w) => (show w'.rangeAt q 0 (refCells c last (.slice (some ⟨b, off, none⟩) L.length capv)) from by obtain ⟨zz, rfl⟩ := h; exact below_range zz.h HA3.out.range))
        have KL3 := Lib.hid (fun (W : World) (hb : Below W3.heap.size W3 W) => KL.out W (bthen' HB3.out hb))
        clear r1 r1' g0 gq hx3 hb3 c20 hb5 KL r4 hvt HT HX HRX HA2 hm'
        (try simp only [Act.put])
        refine wp_region_later (by kernel_rfl) (by kernel_rfl) (Below.refl _ _) ?_
        repeat (first
          | go_big_quiet_skip
          | (go_big_quiet_want; first
            | (refine quiet_load_mid 53 _ rfl q 0 rfl (refCells c last (.slice (some ⟨b, off, none⟩) L.length capv)) _ RC.out Try.underlying53 rfl (vRow c last _) ?_; simp only [Act.put, List.setIfInBounds_toArray, List.set_cons_succ, List.set_cons_zero]; go_big_quiet_on)
            | (go_big_quiet_op; first | go_big_quiet_on | go_big_quiet_call ((go_at_call 41; exact Calls.later (KL3.out _ (Later.h _)))))))
        refine wpQuiet_nil ?_
        rintro ⟨W4, hb4⟩
        dsimp only
        clear d1 d0 dq RC KL3
        have r4b := below_cell hb4 HR4.out
        have g4b := (HA3.out.below hb4).get (i := 4) rfl
        go_wp2_with fail
        go_ret
        exact ⟨rfl, bthen' HB3.out hb4⟩
/-! ### turn -/
theorem recs_set {L : List Iv} {k : Nat} {x : Iv} (hx : L[k]? = some x) (d : Int) : (L.flatMap ivR.cells).set (k * 5 + 4) (.int .i64 d) = (L.set k { x with ld := d }).flatMap ivR.cells := by
  induction L generalizing k with
  | nil => simp at hx
  | cons a L ih =>
    cases k with
    | zero =>
      simp at hx
      subst hx
      rfl
    | succ k =>
      simp at hx
      have ih := ih hx
      have hl : (ivR.cells a).length = 5 := rfl
      rw [List.flatMap_cons, List.set_cons_succ, List.flatMap_cons, ← ih, List.set_append_right _ _ (by omega)]
      congr 2
      omega
theorem more_set {L : List Iv} {k : Nat} {x : Iv} (hasc : L.Pairwise fun x y => x.no < y.no) (hx : L[k]? = some x) (d : Int) : L.set k { x with ld := x.ld + d } = moreI L x.no d := by
  induction L generalizing k with
  | nil => simp at hx
  | cons a L ih =>
    obtain ⟨h1, h2⟩ := List.pairwise_cons.1 hasc
    cases k with
    | zero =>
      simp at hx
      subst hx
      show _ :: L = (if isNo a.no a = true then { a with ld := a.ld + d } else a) :: moreI L a.no d
      rw [if_pos (by simp [isNo])]
      congr 1
      unfold moreI
      symm
      have : ∀ (M : List Iv), (∀ y ∈ M, a.no < y.no) → M.map (fun y => if isNo a.no y = true then { y with ld := y.ld + d } else y) = M := by
        intro M hM
        induction M with
        | nil => rfl
        | cons b M ihM =>
          have hb := hM b (List.mem_cons_self ..)
          rw [List.map_cons, ihM fun y hy => hM y (List.mem_cons_of_mem _ hy), if_neg (by simp [isNo]; omega)]
      exact this L h1
    | succ k =>
      simp at hx
      have h3 := h1 x (List.mem_of_getElem? hx)
      show a :: L.set k _ = (if isNo x.no a = true then { a with ld := a.ld + d } else a) :: moreI L x.no d
      rw [if_neg (by simp [isNo]; omega), ih h2 hx]
set_option maxHeartbeats 8000000 in
theorem rturn_any {N : Nat → Prop} {w : World} {r : Nat} {c : Cfg} {last : Int} {L : List Iv} (h : RI N w r c last L) (hasc : L.Pairwise fun x y => x.no < y.no) (hL : L.length ≤ 100000) {k : Nat} {x : Iv} (hx : L[k]? = some x) (d : Int)
    (hd : -9223372036854775808 ≤ x.ld + d ∧ x.ld + d ≤ 9223372036854775807) :
    Calls Try.prog 58 #[.pointer (some ⟨r, 0, none⟩), .int .i64 k, .int .i64 d] w fun e w' => e = .returned (.tuple #[]) ∧ RP N w r c last (moreI L x.no d) w' := by
  obtain ⟨v, hc, hr⟩ := h.mem
  have H := Lib.hid h
  have hkl : k < L.length := (List.getElem?_eq_some_iff.1 hx).1
  have hO0 := Owns.made (R := ivR) (w := w) (B := w.heap.size) (Nat.le_refl _)
  have hb1 : Below w.heap.size w (w.alloc (.cells #[] ivR.ty)) := (Below.refl _ _).alloc (Nat.le_refl _) _
  obtain ⟨av, capv, rfl⟩ := hr.reads.form
  have hV := hr.reads.below hb1
  have HCL := Lib.hid hc
  have c20 := (hc.below hb1).get (i := 20) rfl
  have HX := Lib.hid hx
  have HMS := Lib.hid (more_set hasc hx d)
  clear h hc hr hasc hx
  go_enter Try.func58, Try.ntmps58
  go_upto_region 1 with (first
    | (refine wl_append_all ivOk rfl _ _ rfl rfl w.heap.size _ _ [] L rfl rfl hO0 hV (by simp; omega) hb1.size ?_; intro ua W2 hOa hga hba)
    | (refine wl_build_none_rec ivOk rfl rfl ?_; generalize w.alloc (.cells #[] ivR.ty) = W1 at hO0 hb1 hV c20 ⊢))
  rw [List.nil_append] at hOa
  have hB2 := hb1.grown hga hb1.size (fun k hk => (hO0.lt k hk).1)
  obtain ⟨g, cap, rfl, hg1, hg2⟩ : ∃ g cap, ua = .slice (some ⟨g, 0, none⟩) L.length cap ∧ w.heap.size ≤ g ∧ g < W2.heap.size := by
    rcases hOa.nilOf with ⟨-, h9⟩ | h9
    · rw [h9] at hkl; simp at hkl
    · exact h9
  have hcel := owns_cel hOa
  have hk4 : (L.flatMap ivR.cells)[k * 5 + 4]? = some (.int .i64 x.ld) := recs_at ivOk L k x 4 _ HX.out rfl
  have g4 := hcel.get hk4
  have g4f := hcel.free hk4
  have HCE := Lib.hid hcel
  have HB2 := Lib.hid hB2
  clear hOa hga hba hO0 hb1 hV c20 hcel hk4 hB2
  go_upto_region 2 with fail
  have hu3 : Upd [g] W2 (W2.setCell ⟨g, k * 5 + 4, none⟩ (.int .i64 (x.ld + d))) := (Upd.refl [g] _).setCell (by simp) _
  have hc3 := HCE.out.set (k * 5 + 4) (.int .i64 (x.ld + d))
  rw [recs_set HX.out, HMS.out] at hc3
  have hb3 := hu3.toBelow HB2.out HB2.out.size (by simpa using hg1)
  have hs3 := hu3.size
  generalize W2.setCell ⟨g, k * 5 + 4, none⟩ (.int .i64 (x.ld + d)) = W3 at hc3 hb3 hs3 ⊢
  have HCW := Lib.hid (HCL.out.below hb3)
  have g20 := HCW.out.get (i := 20) rfl
  have g20f := HCW.out.free (i := 20) rfl
  have HRN := Lib.hid (show ReadsN ivR N W3 (.slice (some ⟨g, 0, none⟩) L.length cap) (moreI L x.no d) from
    .inr ⟨g, 0, cap, by rw [more_len], fun h9 => by have := H.out.lt g h9; omega, by omega, fun i y hy j u hu => by
      have h9 := hc3.get (recs_at ivOk _ i y j u hy hu)
      rw [Nat.zero_add]
      exact h9⟩)
  have HUW := Lib.hid (show UpdP (fun k => k = r) w W3 from UpdP.ofB hb3)
  clear hu3 hc3 hb3 hs3 HCE HB2 HMS HX HCL g4 g4f
  go_wp2_with fail
  go_end0
  exact ⟨rfl, H.out.setL HUW.out HCW.out HRN.out rfl⟩
end Go.Proofs.Ytogajmbkjojdhaa

/-! The document's Admit, Leave. -/
set_option linter.unusedVariables false
set_option linter.unusedSimpArgs false
set_option maxRecDepth 100000
namespace Go.Proofs.Ytogajmbkjojdhaa
open Go.RowKit

theorem ix_of {L : List Iv} {n : Int} {x : Iv} (h : fNo L n = some x) : ∃ k : Nat, ixB (isNo n) L = k ∧ L[k]? = some x := by
  rcases ixB_cases (isNo n) L with ⟨-, h2⟩ | ⟨k, y, h1, h2, h3⟩
  · rw [show fNo L n = none from h2] at h; cases h
  · rw [show fNo L n = some y from h3] at h
    obtain rfl := Option.some.inj h
    exact ⟨k, h1, h2⟩
set_option maxHeartbeats 4000000 in
theorem radmit_any {N : Nat → Prop} {w : World} {r : Nat} {c : Cfg} {last : Int} {L : List Iv} (h : RI N w r c last L) (hin : c.In w) (ho : InvOk c last L) (hL : L.length ≤ 100000) (n : Int) :
    Calls Try.prog 36 #[.pointer (some ⟨r, 0, none⟩), .int .i64 n] w fun e w' => e = .returned (.int .i64 (roomI c L n)) ∧ RP N w r c last (admitL c L n) w' := by
  obtain ⟨v, hc, hr⟩ := h.mem
  have H := Lib.hid h
  have HC := Lib.hid hc.range
  have KR := Lib.hid (rroom_any w c hin last v L hr.reads ho hL n)
  by_cases h0 : roomI c L n = 0
  · have eL : admitL c L n = moreI L n 1 := by unfold admitL; rw [if_pos h0]
    rw [eL, h0]
    rw [h0] at KR
    obtain ⟨x, hf, -, hx⟩ := room_zero h0
    obtain ⟨k, hk, hxk⟩ := ix_of hf
    obtain ⟨hxL, hxn⟩ := fNo_mem hf
    have hld := ho.loads x hxL
    have hcap := ho.cap
    have KN := Lib.hid (fun (W : World) (hb : Below w.heap.size w W) => rno_any W c last v L (hr.reads.below hb) hL n)
    rw [hk] at KN
    have KT := Lib.hid (fun (W : World) (hb : Below w.heap.size w W) => rturn_any (h.below hb) ho.asc hL hxk 1 (by omega))
    rw [hxn] at KT
    clear h hc hr hin ho h0 eL hf hk hxk hxL hxn hx
    go_enter Try.func36, Try.ntmps36
    go_wp2_with (first
      | (refine wpList_load_mid rfl 53 _ rfl r 0 rfl (refCells c last v) _ (below_range hb2 HC.out) Try.underlying53 rfl (vRow c last _) ?_)
      | (refine wpList_load_mid rfl 53 _ rfl r 0 rfl (refCells c last v) _ HC.out Try.underlying53 rfl (vRow c last _) ?_)
      | (go_at_call 58; refine (KT.out _ (bthen' hb2 hb3)).mono ?_; rintro e W4 ⟨rfl, hp4⟩)
      | (go_at_call 40; refine (KN.out _ hb2).mono ?_; rintro e W3 ⟨rfl, hb3⟩)
      | (go_at_call 35; refine KR.out.mono ?_; rintro e W2 ⟨rfl, hb2⟩))
    go_ret
    exact ⟨rfl, wt_gr (UpdP.ofB (bthen' hb2 hb3)) hp4.1, hp4.2⟩
  · have eL : admitL c L n = L := by unfold admitL; rw [if_neg h0]
    rw [eL]
    obtain ⟨q, hq⟩ : ∃ q, q = roomI c L n := ⟨_, rfl⟩
    rw [← hq] at KR h0 ⊢
    have q1 : (q == 0) = false := by simp [h0]
    clear h hc hr hin ho eL hq h0
    go_enter Try.func36, Try.ntmps36
    go_wp2_with (first
      | (refine wpList_load_mid rfl 53 _ rfl r 0 rfl (refCells c last v) _ HC.out Try.underlying53 rfl (vRow c last _) ?_)
      | (go_at_call 35; refine KR.out.mono ?_; rintro e W2 ⟨rfl, hb2⟩))
    go_ret
    exact ⟨rfl, H.out.same hb2⟩
set_option maxHeartbeats 4000000 in
theorem rleave_any {N : Nat → Prop} {w : World} {r : Nat} {c : Cfg} {last : Int} {L : List Iv} (h : RI N w r c last L) (ho : InvOk c last L) (hL : L.length ≤ 100000) (n : Int) :
    Calls Try.prog 37 #[.pointer (some ⟨r, 0, none⟩), .int .i64 n] w fun e w' => e = .returned (.bool (leaveB L n)) ∧ RP N w r c last (leaveL L n) w' := by
  obtain ⟨v, hc, hr⟩ := h.mem
  have H := Lib.hid h
  have HC := Lib.hid hc.range
  have KN := Lib.hid (rno_any w c last v L hr.reads hL n)
  obtain ⟨av, capv, rfl⟩ := hr.reads.form
  have HC20 := Lib.hid (fun (W : World) (hb : Below w.heap.size w W) => (hc.below hb).get (i := 20) rfl)
  cases hf : fNo L n with
  | none =>
    have eB : leaveB L n = false := by unfold leaveB; rw [hf]
    have eL : leaveL L n = L := by unfold leaveL; rw [eB, if_neg (by decide)]
    rw [eB, eL]
    rcases ixB_cases (isNo n) L with ⟨h1, h2⟩ | ⟨k, x, h1, hx, h3⟩
    rotate_left
    · rw [show fNo L n = some x from h3] at hf; cases hf
    rw [h1] at KN
    clear h hc hr ho eB eL hf h1 h2
    go_enter Try.func37, Try.ntmps37
    go_wp2_with (first
      | (refine wpList_load_mid rfl 53 _ rfl r 0 rfl (refCells c last _) _ HC.out Try.underlying53 rfl (vRow c last _) ?_)
      | (go_at_call 40; refine KN.out.mono ?_; rintro e W2 ⟨rfl, hb2⟩))
    go_ret
    exact ⟨rfl, H.out.same hb2⟩
  | some x =>
    obtain ⟨k, hk, hxk⟩ := ix_of hf
    obtain ⟨hxL, hxn⟩ := fNo_mem hf
    have hld := ho.loads x hxL
    have hcap := ho.cap
    have hkl : k < L.length := (List.getElem?_eq_some_iff.1 hxk).1
    rw [hk] at KN
    have HX := Lib.hid (fun (W : World) (hb : Below w.heap.size w W) => (hr.reads.below hb).at hxk)
    by_cases h0 : x.ld = 0
    · have eB : leaveB L n = false := by unfold leaveB; rw [hf]; simp [h0]
      have eL : leaveL L n = L := by unfold leaveL; rw [eB, if_neg (by decide)]
      rw [eB, eL]
      have q0 : (x.ld == 0) = true := by simp [h0]
      clear h hc hr ho eB eL hf hk hxk hxL hxn h0
      go_enter Try.func37, Try.ntmps37
      go_upto_region 2 with (first
        | (refine wpList_load_mid rfl 53 _ rfl r 0 rfl (refCells c last _) _ HC.out Try.underlying53 rfl (vRow c last _) ?_)
        | (go_at_call 40; refine KN.out.mono ?_; rintro e W2 ⟨rfl, hb2⟩))
      obtain ⟨b, off, rfl, hrx⟩ := HX.out _ hb2
      have c20 := HC20.out _ hb2
      obtain ⟨-, -, -, -, y4⟩ := ivk_parts hrx
      clear hrx
      go_wp2_with fail
      go_ret
      exact ⟨rfl, H.out.same hb2⟩
    · have eB : leaveB L n = true := by unfold leaveB; rw [hf]; simp [h0]
      have eL : leaveL L n = moreI L n (-1) := by unfold leaveL; rw [eB, if_pos rfl]
      rw [eB, eL]
      have q0 : (x.ld == 0) = false := by simp [h0]
      have KT := Lib.hid (fun (W : World) (hb : Below w.heap.size w W) => rturn_any (h.below hb) ho.asc hL hxk (-1) (by omega))
      rw [hxn] at KT
      clear h hc hr ho eB eL hf hk hxk hxL hxn h0
      go_enter Try.func37, Try.ntmps37
      go_upto_region 2 with (first
        | (refine wpList_load_mid rfl 53 _ rfl r 0 rfl (refCells c last _) _ HC.out Try.underlying53 rfl (vRow c last _) ?_)
        | (go_at_call 40; refine KN.out.mono ?_; rintro e W2 ⟨rfl, hb2⟩))
      obtain ⟨b, off, rfl, hrx⟩ := HX.out _ hb2
      have c20 := HC20.out _ hb2
      obtain ⟨-, -, -, -, y4⟩ := ivk_parts hrx
      clear hrx
      go_wp2_with (go_at_call 58; refine (KT.out _ hb2).mono ?_; rintro e W4 ⟨rfl, hp4⟩)
      go_ret
      exact ⟨rfl, wt_gr (UpdP.ofB hb2) hp4.1, hp4.2⟩
end Go.Proofs.Ytogajmbkjojdhaa

/-! The document's Open (printed by geninvopen.py). -/
set_option linter.unusedVariables false
set_option linter.unusedSimpArgs false
set_option maxRecDepth 100000
namespace Go.Proofs.Ytogajmbkjojdhaa
open Go.RowKit

theorem quiet_built {P : Program} {C : World → Prop} {K : Act → Prop} {a : Act} {o : Oper} (t : TypeId) (parts : Array (Nat × Operand)) (ho : o.op = .build t parts)
    (ps : List (Nat × Value)) (hp : (parts.map fun (i, x) => (i, a.eval x)).toList = ps) (cells : Array Value) (hf : P.built t ps = some cells) (h : K (a.put o.dst (.agg cells))) : o.quiet P a C K :=
  ⟨.agg cells, fun w hw => by
    unfold Oper.quietAt execOp
    simp only [ho, Sem.run_bind, run_build w t _ _ (hp ▸ hf), Result.andThen_ok]
    trivial, h⟩
theorem RI.setL2 {N : Nat → Prop} {w w1 w2 : World} {r : Nat} {c : Cfg} {last last2 : Int} {L L2 : List Iv} {v u : Value} (h : RI N w r c last L) (hu : UpdP (fun k => k = r) w w1) (hc : Cel w1 r (refCells c last2 v)) (hL : ReadsN ivR N w1 u L2) (e : w2 = w1.setCell ⟨r, 20, none⟩ u) : RP N w r c last2 L2 w2 := by
  subst e
  have hu1 : Upd [r] w1 (w1.setCell ⟨r, 20, none⟩ u) := (Upd.refl [r] _).setCell (by simp) _
  have hu2 : UpdP (fun k => k = r) w1 (w1.setCell ⟨r, 20, none⟩ u) := UpdP.of hu1 (fun k hk => .inl (by simpa using hk))
  have hs := hu.size
  have hs2 := hu2.size
  refine ⟨wt_gr hu hu2, ⟨u, hc.set 20 u, hL.updP hu2 (fun k hk => by subst hk; exact h.nr)⟩, h.nr, fun k hk => ?_⟩
  have := h.lt k hk
  omega
def ROpenP (N : Nat → Prop) (w : World) (r : Nat) (c : Cfg) (last : Int) (L : List Iv) (q e1 : Int) (e : Ending) (w' : World) : Prop := e = .returned (.tuple #[.int .i64 q, .int .i64 e1]) ∧ RP N w r c last L w'
set_option maxHeartbeats 16000000 in
theorem ropen_any {N : Nat → Prop} {w : World} {r : Nat} {c : Cfg} {last : Int} {L : List Iv} (h : RI N w r c last L) (hin : c.In w) (ho : InvOk c last L) (t : Int) (s : ByteArray) (wt : Int) (hs : s.size ≤ 9223372036854775807) (hL : L.length ≤ 10000) (hl : last + 1 < 9223372036854775807) :
    Calls Try.prog 33 #[.pointer (some ⟨r, 0, none⟩), .int .i64 t, .string s, .int .i64 wt] w (ROpenP N w r c (openN c last L t s wt) (openL c last L t s wt) (openR c last L t s wt) (chkI c L t s wt)) := by
  obtain ⟨v, hc, hr⟩ := h.mem
  have H := Lib.hid h
  have HC := Lib.hid hc.range
  have KC := Lib.hid (rcheck_any w c hin last v L hr.reads (by omega) t s wt hs (LdI.bound ho (by omega) t))
  obtain ⟨av, capv, rfl⟩ := hr.reads.form
  by_cases h0 : chkI c L t s wt = 0
  · have eN := Lib.hid (show openN c last L t s wt = last + 1 from by unfold openN; rw [if_pos h0])
    have eL := Lib.hid (show openL c last L t s wt = L ++ [⟨last + 1, t, s, wt, 0⟩] from by unfold openL; rw [if_pos h0])
    have eR := Lib.hid (show openR c last L t s wt = last + 1 from by unfold openR; rw [if_pos h0])
    rw [eN.out, eL.out, eR.out, h0]
    rw [h0] at KC
    have hl0 := ho.last.1
    obtain ⟨X, hX⟩ : ∃ X : Iv, X = ⟨last + 1, t, s, wt, 0⟩ := ⟨_, rfl⟩
    rw [← hX]
    have HBX := Lib.hid (show Try.prog.built 32 [(0, .int .i64 (last + 1)), (1, .int .i64 t), (2, .string s), (3, .int .i64 wt)] = some (ivR.cells X).toArray from by rw [hX]; exact built4 _ _ _ _)
    have HRR := Lib.hid hr
    have HCL := Lib.hid hc
    have HW64 := Lib.hid (show wrap64 (last + 1) = last + 1 from by unfold wrap64; omega)
    clear h hc hr hin ho h0 eN eL eR hX
    go_enter Try.func33, Try.ntmps33
    go_upto_region 4 with (first
      | (refine wpList_load_mid rfl 53 _ rfl r 0 rfl (refCells c last _) _ HC.out Try.underlying53 rfl (vRow c last _) ?_)
      | (go_at_call 43; refine KC.out.mono ?_; rintro e W2 ⟨rfl, hb2⟩))
    have HC2 := Lib.hid (HCL.out.below hb2)
    have HB2 := Lib.hid hb2
    clear hb2 KC HC HCL
    have c19 := HC2.out.get (i := 19) rfl
    have c19f := HC2.out.free (i := 19) rfl
    go_upto_region 5 with fail
    have hc3 : Cel (W2.setCell ⟨r, 19, none⟩ (.int .i64 (last + 1))) r (refCells c (last + 1) (.slice av L.length capv)) := HC2.out.set 19 _
    have hU3 : UpdP (fun k => k = r) W2 (W2.setCell ⟨r, 19, none⟩ (.int .i64 (last + 1))) := UpdP.of ((Upd.refl [r] _).setCell (by simp) _) (fun k hk => .inl (by simpa using hk))
    generalize W2.setCell ⟨r, 19, none⟩ (.int .i64 (last + 1)) = W3 at hc3 hU3 ⊢
    have HC3 := Lib.hid hc3
    have HU3 := Lib.hid (wt_gr (UpdP.ofB HB2.out) hU3)
    have HV3 := Lib.hid (HRR.out.updP HU3.out (fun k hk => by subst hk; exact H.out.nr))
    have HVR := Lib.hid HV3.out.reads
    have hs3 := HU3.out.size
    clear c19 c19f hc3 hU3 HC2 HB2
    have c19 := HC3.out.get (i := 19) rfl
    have c20 := HC3.out.get (i := 20) rfl
    have hneS : Nonempty (Mix.InS (fun z => Below W3.heap.size W3 z)) := ⟨⟨W3, Below.refl _ _⟩⟩
    have d0 := fun (z : Mix.InS (fun z => Below W3.heap.size W3 z)) => below_cell z.h c19
    have d1 := fun (z : Mix.InS (fun z => Below W3.heap.size W3 z)) => below_cell z.h c20
    clear c19 c20
    (try simp only [Act.put])
    refine Mix.wp_region_tree_tail 17 (.two [0, 2, 3, 4, 5, 7, 8, 9, 10, 11, 12, 13, 14] 1 (.two [] 6 (.op [] 15 (.op [] 16 (.fin []))) 15 (.op [] 6 (.op [] 16 (.fin [])))) 15 (.op [] 1 (.op [] 6 (.op [] 16 (.fin []))))) (fun w' => ∃ x : Mix.InS (fun z => Below W3.heap.size W3 z), w' = x.w) (by kernel_rfl) (by kernel_rfl) (Mix.inS_mk (Below.refl _ _).drew) ?_
    simp only [List.take_succ_cons, List.take_zero, List.drop_succ_cons, List.drop_zero]
    have TT0 := Lib.hid ((Two.start (R := ivR) (W0 := W3) (v := .slice av L.length capv) (L := L) (x := X) (v8 := undef) (v9 := undef) (v10 := undef) (v11 := undef) (v12 := undef) (v13 := undef) (show Below W3.heap.size W3 W3.drew from (Below.refl _ _).drew)).step1.step3)
    generalize W3.drew = X0 at TT0 ⊢
    refine Mix.tree_two ?_
    simp only [Mix.pickL, List.getElem?_cons_zero, List.getElem?_cons_succ]
    repeat (first
      | go_big_quiet_skip
      | (go_big_quiet_want; first
        | (refine quiet_built 32 _ rfl [(0, .int .i64 (last + 1)), (1, .int .i64 t), (2, .string s), (3, .int .i64 wt)] (by simp [Act.eval, Act.put]) _ HBX.out ?_; simp only [Act.put, List.setIfInBounds_toArray, List.set_cons_succ, List.set_cons_zero]; go_big_quiet_on)
        | (go_big_quiet_op; go_big_quiet_on)))
    refine wpQuiet_nil ?_
    clear d0 d1 hneS
    refine ⟨?_, ?_⟩
    · go_wp2_with (refine wl_build_none_rec ivOk rfl rfl ?_)
      have TT1 := Lib.hid TT0.out.step0
      refine Mix.onward_in (W' := X0.alloc (.cells #[] ivR.ty)) TT1.out.below ?_
      generalize X0.alloc (.cells #[] ivR.ty) = X1 at TT1 ⊢
      refine Mix.tree_two ?_
      simp only [Mix.pickL, List.getElem?_cons_zero, List.getElem?_cons_succ]
      refine wpQuiet_nil ?_
      refine ⟨?_, ?_⟩
      · go_wp2_with (refine wl_append_all ivOk rfl _ _ rfl rfl W3.heap.size _ _ [] L rfl rfl (TT1.out.p0 rfl rfl) (HVR.out.below TT1.out.below) (by simp; omega) TT1.out.below.size ?_; intro ua X2 hOa hga hba)
        have TT2 := Lib.hid (TT1.out.step2 hOa hga)
        refine Mix.onward_in (W' := X2) TT2.out.below ?_
        clear hOa hga hba
        refine Mix.tree_op ?_
        simp only [Mix.pickL, List.getElem?_cons_zero, List.getElem?_cons_succ]
        refine wpQuiet_nil ?_
        go_wp2_with (refine wl_build_rec ivOk rfl _ rfl X rfl ?_; have TT3 := Lib.hid TT2.out.step4; generalize X2.alloc (.cells (ivR.val X).cells ivR.ty) = X3 at TT3 ⊢)
        refine Mix.onward_in (W' := X3) TT3.out.below ?_
        refine Mix.tree_op ?_
        simp only [Mix.pickL, List.getElem?_cons_zero, List.getElem?_cons_succ]
        refine wpQuiet_nil ?_
        obtain ⟨cx, hcx, hx1, hx2, hx3, -⟩ := TT3.out.p4 rfl rfl
        cases hcx
        go_wp2_with (refine wl_append_rec ivOk rfl _ _ rfl W3.heap.size _ L rfl (TT3.out.p2 rfl rfl) _ 0 1 X rfl hx3 (by omega) TT3.out.below.size ?_; intro gz cz Wz hOz hgz haz)
        have TZ := Lib.hid (TT3.out.step5 hOz hgz)
        refine Mix.onward_in (W' := Wz) TZ.out.below ?_
        clear hOz hgz haz hx1 hx2 hx3
        refine Mix.tree_fin ?_
        simp only [Mix.pickL]
        refine wpQuiet_nil ?_
        (try simp only [Act.put])
        have CZ := HC3.out.below TZ.out.below
        have z2 := CZ.get (i := 20) rfl
        have f2 := CZ.free (i := 20) rfl
        have HBZ := Lib.hid TZ.out.below
        have HOZ := Lib.hid (TZ.out.p5 rfl)
        have HRN := Lib.hid (show ReadsN ivR N Wz (.slice (some ⟨gz, 0, none⟩) (L.length + 1) cz) (L ++ [X]) from HOZ.out.readsN ivOk fun k h1 h2 h3 => by have := H.out.lt k h3; omega)
        have HPP := Lib.hid (H.out.setL2 (wt_gr HU3.out (UpdP.ofB HBZ.out)) CZ HRN.out rfl)
        have CY := CZ.set 20 (.slice (some ⟨gz, 0, none⟩) (L.length + 1) cz)
        clear CZ TZ
        go_wp2_with fail
        simp only [Mix.OnlyN]
        generalize Wz.setCell ⟨r, 20, none⟩ (.slice (some ⟨gz, 0, none⟩) (L.length + 1) cz) = Wy at CY HPP ⊢
        have y1 := CY.get (i := 19) rfl
        clear CY z2 f2
        go_wp2_with fail
        go_ret2
        exact ⟨rfl, HPP.out⟩
      · go_wp2_with (refine wl_build_rec ivOk rfl _ rfl X rfl ?_; have TT2 := Lib.hid TT1.out.step4; generalize X1.alloc (.cells (ivR.val X).cells ivR.ty) = X2 at TT2 ⊢)
        refine Mix.onward_in (W' := X2) TT2.out.below ?_
        refine Mix.tree_op ?_
        simp only [Mix.pickL, List.getElem?_cons_zero, List.getElem?_cons_succ]
        refine wpQuiet_nil ?_
        go_wp2_with (refine wl_append_all ivOk rfl _ _ rfl rfl W3.heap.size _ _ [] L rfl rfl (TT2.out.p0 rfl rfl) (HVR.out.below TT2.out.below) (by simp; omega) TT2.out.below.size ?_; intro ua X3 hOa hga hba)
        have TT3 := Lib.hid (TT2.out.step2 hOa hga)
        refine Mix.onward_in (W' := X3) TT3.out.below ?_
        clear hOa hga hba
        refine Mix.tree_op ?_
        simp only [Mix.pickL, List.getElem?_cons_zero, List.getElem?_cons_succ]
        refine wpQuiet_nil ?_
        obtain ⟨cx, hcx, hx1, hx2, hx3, -⟩ := TT3.out.p4 rfl rfl
        cases hcx
        go_wp2_with (refine wl_append_rec ivOk rfl _ _ rfl W3.heap.size _ L rfl (TT3.out.p2 rfl rfl) _ 0 1 X rfl hx3 (by omega) TT3.out.below.size ?_; intro gz cz Wz hOz hgz haz)
        have TZ := Lib.hid (TT3.out.step5 hOz hgz)
        refine Mix.onward_in (W' := Wz) TZ.out.below ?_
        clear hOz hgz haz hx1 hx2 hx3
        refine Mix.tree_fin ?_
        simp only [Mix.pickL]
        refine wpQuiet_nil ?_
        (try simp only [Act.put])
        have CZ := HC3.out.below TZ.out.below
        have z2 := CZ.get (i := 20) rfl
        have f2 := CZ.free (i := 20) rfl
        have HBZ := Lib.hid TZ.out.below
        have HOZ := Lib.hid (TZ.out.p5 rfl)
        have HRN := Lib.hid (show ReadsN ivR N Wz (.slice (some ⟨gz, 0, none⟩) (L.length + 1) cz) (L ++ [X]) from HOZ.out.readsN ivOk fun k h1 h2 h3 => by have := H.out.lt k h3; omega)
        have HPP := Lib.hid (H.out.setL2 (wt_gr HU3.out (UpdP.ofB HBZ.out)) CZ HRN.out rfl)
        have CY := CZ.set 20 (.slice (some ⟨gz, 0, none⟩) (L.length + 1) cz)
        clear CZ TZ
        go_wp2_with fail
        simp only [Mix.OnlyN]
        generalize Wz.setCell ⟨r, 20, none⟩ (.slice (some ⟨gz, 0, none⟩) (L.length + 1) cz) = Wy at CY HPP ⊢
        have y1 := CY.get (i := 19) rfl
        clear CY z2 f2
        go_wp2_with fail
        go_ret2
        exact ⟨rfl, HPP.out⟩
    · go_wp2_with (refine wl_build_rec ivOk rfl _ rfl X rfl ?_; have TT1 := Lib.hid TT0.out.step4; generalize X0.alloc (.cells (ivR.val X).cells ivR.ty) = X1 at TT1 ⊢)
      refine Mix.onward_in (W' := X1) TT1.out.below ?_
      refine Mix.tree_op ?_
      simp only [Mix.pickL, List.getElem?_cons_zero, List.getElem?_cons_succ]
      refine wpQuiet_nil ?_
      go_wp2_with (refine wl_build_none_rec ivOk rfl rfl ?_)
      have TT2 := Lib.hid TT1.out.step0
      refine Mix.onward_in (W' := X1.alloc (.cells #[] ivR.ty)) TT2.out.below ?_
      generalize X1.alloc (.cells #[] ivR.ty) = X2 at TT2 ⊢
      refine Mix.tree_op ?_
      simp only [Mix.pickL, List.getElem?_cons_zero, List.getElem?_cons_succ]
      refine wpQuiet_nil ?_
      go_wp2_with (refine wl_append_all ivOk rfl _ _ rfl rfl W3.heap.size _ _ [] L rfl rfl (TT2.out.p0 rfl rfl) (HVR.out.below TT2.out.below) (by simp; omega) TT2.out.below.size ?_; intro ua X3 hOa hga hba)
      have TT3 := Lib.hid (TT2.out.step2 hOa hga)
      refine Mix.onward_in (W' := X3) TT3.out.below ?_
      clear hOa hga hba
      refine Mix.tree_op ?_
      simp only [Mix.pickL, List.getElem?_cons_zero, List.getElem?_cons_succ]
      refine wpQuiet_nil ?_
      obtain ⟨cx, hcx, hx1, hx2, hx3, -⟩ := TT3.out.p4 rfl rfl
      cases hcx
      go_wp2_with (refine wl_append_rec ivOk rfl _ _ rfl W3.heap.size _ L rfl (TT3.out.p2 rfl rfl) _ 0 1 X rfl hx3 (by omega) TT3.out.below.size ?_; intro gz cz Wz hOz hgz haz)
      have TZ := Lib.hid (TT3.out.step5 hOz hgz)
      refine Mix.onward_in (W' := Wz) TZ.out.below ?_
      clear hOz hgz haz hx1 hx2 hx3
      refine Mix.tree_fin ?_
      simp only [Mix.pickL]
      refine wpQuiet_nil ?_
      (try simp only [Act.put])
      have CZ := HC3.out.below TZ.out.below
      have z2 := CZ.get (i := 20) rfl
      have f2 := CZ.free (i := 20) rfl
      have HBZ := Lib.hid TZ.out.below
      have HOZ := Lib.hid (TZ.out.p5 rfl)
      have HRN := Lib.hid (show ReadsN ivR N Wz (.slice (some ⟨gz, 0, none⟩) (L.length + 1) cz) (L ++ [X]) from HOZ.out.readsN ivOk fun k h1 h2 h3 => by have := H.out.lt k h3; omega)
      have HPP := Lib.hid (H.out.setL2 (wt_gr HU3.out (UpdP.ofB HBZ.out)) CZ HRN.out rfl)
      have CY := CZ.set 20 (.slice (some ⟨gz, 0, none⟩) (L.length + 1) cz)
      clear CZ TZ
      go_wp2_with fail
      simp only [Mix.OnlyN]
      generalize Wz.setCell ⟨r, 20, none⟩ (.slice (some ⟨gz, 0, none⟩) (L.length + 1) cz) = Wy at CY HPP ⊢
      have y1 := CY.get (i := 19) rfl
      clear CY z2 f2
      go_wp2_with fail
      go_ret2
      exact ⟨rfl, HPP.out⟩
  · have eN := Lib.hid (show openN c last L t s wt = last from by unfold openN; rw [if_neg h0])
    have eL := Lib.hid (show openL c last L t s wt = L from by unfold openL; rw [if_neg h0])
    have eR := Lib.hid (show openR c last L t s wt = 0 from by unfold openR; rw [if_neg h0])
    rw [eN.out, eL.out, eR.out]
    obtain ⟨q, hq⟩ : ∃ q, q = chkI c L t s wt := ⟨_, rfl⟩
    rw [← hq] at KC h0 ⊢
    have q1 : (q != 0) = true := by simp [h0]
    clear h hc hr hin ho h0 eN eL eR hq
    go_enter Try.func33, Try.ntmps33
    go_wp2_with (first
      | (refine wpList_load_mid rfl 53 _ rfl r 0 rfl (refCells c last _) _ HC.out Try.underlying53 rfl (vRow c last _) ?_)
      | (go_at_call 43; refine KC.out.mono ?_; rintro e W2 ⟨rfl, hb2⟩))
    go_ret2
    exact ⟨rfl, H.out.same hb2⟩
end Go.Proofs.Ytogajmbkjojdhaa

