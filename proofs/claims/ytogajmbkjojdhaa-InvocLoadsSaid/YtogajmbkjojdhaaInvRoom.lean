/- Invocations: Room, Admit, Leave. -/
import Derived.Test.YtogajmbkjojdhaaInvCls
set_option linter.unusedVariables false
set_option linter.unusedSimpArgs false
set_option maxRecDepth 100000
namespace Go.Proofs.Ytogajmbkjojdhaa
open Go.RowKit

theorem room_nil (w : World) (n : Int) : Calls Try.prog 19 #[.pointer none, .int .i64 n] w (Chkd w 19) := by
  go_enter Try.func19, Try.ntmps19
  go_wp2_with fail
  go_ret
  exact ⟨rfl, Below.refl _ _⟩
theorem ten_q {w : World} {b off k : Nat} {x : Ten} (h : w.rangeAt b (off + k * tenR.n) (tenR.cells x)) : w.cell? ⟨b, off + k * 3 + 2, none⟩ = some (.int .i64 x.q) := by have := h 2 _ rfl; simpa [tenR] using this
set_option maxHeartbeats 8000000 in
theorem room_any {w : World} {v nm lm : Nat} {c : Cfg} {last : Int} {L : List Iv} (h : InvM w v nm lm c last L) (hin : c.In w) (ho : InvOk c last L) (n : Int) (hL : L.length ≤ 100000) :
    Calls Try.prog 19 #[.pointer (some ⟨v, 0, none⟩), .int .i64 n] w (Chkd w (roomI c L n)) := by
  have c21 := h.cel.get (i := 21) rfl
  have HML := Lib.hid h.ml.toF
  have H := Lib.hid h
  cases hf : fNo L n with
  | none =>
    have eC := Lib.hid (show roomI c L n = 7 from by unfold roomI; rw [hf])
    rw [eC.out]
    have HG := Lib.hid (show (noF L n).getD (ivR.val zeroIv) = ivR.val zeroIv from by unfold noF; rw [hf]; rfl)
    have HS := Lib.hid (show (noF L n).isSome = false from by unfold noF; rw [hf]; rfl)
    clear hf h ho eC hin
    go_enter Try.func19, Try.ntmps19
    go_wp2_with (first
      | (refine wl_lookupOk (intK_ok Try.underlying3) rfl _ _ 62 32 rfl Try.underlying62 (z := ivR.val zeroIv) zeroInv rfl HML.out n rfl ?_; rw [HG.out, HS.out])
      | (refine wpList_store_mid rfl 32 _ _ rfl w.heap.size 0 (ivR.cells zeroIv).toArray rfl rfl (freshR_there ivOk w zeroIv) (ivOk.row' zeroIv) (ivOk.one' zeroIv) ?_; show wpList _ _ _ _ _ (freshR ivR w zeroIv); have hb3 := freshR_below (R := ivR) w zeroIv; generalize freshR ivR w zeroIv = W3 at hb3 ⊢))
    go_ret
    exact ⟨rfl, hb3⟩
  | some x =>
    obtain ⟨hxL, rfl⟩ := fNo_mem hf
    have HG := Lib.hid (show (noF L x.no).getD (ivR.val zeroIv) = ivR.val x from by unfold noF; rw [hf]; rfl)
    have HS := Lib.hid (show (noF L x.no).isSome = true from by unfold noF; rw [hf]; rfl)
    obtain ⟨ht0, ht1⟩ := ho.tens x hxL
    obtain ⟨k, hk⟩ : ∃ k : Nat, x.tn = (k : Int) := ⟨x.tn.toNat, by omega⟩
    obtain ⟨T0, hT0⟩ : ∃ T0, c.T[k]? = some T0 := ⟨_, List.getElem?_eq_getElem (by omega)⟩
    have hkl : k < c.T.length := (List.getElem?_eq_some_iff.1 hT0).1
    have c0 := h.cel.get (i := 0) rfl
    obtain ⟨at', capt, hvt⟩ := hin.t.form
    have htr := hin.t
    rw [hvt] at htr c0
    obtain ⟨bt, ot, hct, hrt⟩ := htr.at hT0
    subst hct
    have hqt := ten_q hrt
    have c4 := h.cel.get (i := 4) rfl
    have hq : quota c x.tn = T0.q := by unfold quota; rw [hk, Int.toNat_natCast, hT0]
    have eC := Lib.hid (show roomI c L x.no = if T0.q ≤ loadT L x.tn then 12 else if c.cap ≤ x.ld then 13 else 0 from by unfold roomI; rw [hf]; show (if quota c x.tn ≤ _ then _ else _) = _; rw [hq])
    rw [eC.out]
    have KL := Lib.hid (fun (W : World) (hb : Below w.heap.size w W) => load_any (h.below hb) ho x.tn hL)
    clear hf h ho hin hvt hT0 hrt hq eC ht0 ht1 hxL htr
    rw [hk]
    rw [hk] at KL
    by_cases h1 : T0.q ≤ loadT L (k : Int)
    · rw [if_pos h1]
      have q1 : decide (T0.q ≤ loadT L (k : Int)) = true := by simp; omega
      have q1' : decide (loadT L (k : Int) ≥ T0.q) = true := by simp; omega
      clear h1
      go_enter Try.func19, Try.ntmps19
      go_upto_region 6 with (first
        | (refine wl_lookupOk (intK_ok Try.underlying3) rfl _ _ 62 32 rfl Try.underlying62 (z := ivR.val zeroIv) zeroInv rfl HML.out x.no rfl ?_; rw [HG.out, HS.out])
        | (refine wpList_store_mid rfl 32 _ _ rfl w.heap.size 0 (ivR.cells x).toArray rfl rfl (freshR_there ivOk w x) (ivOk.row' x) (ivOk.one' x) ?_; show wpList _ _ _ _ _ (freshR ivR w x); have hx3 := freshR_range ivOk w x; have hb3 := freshR_below (R := ivR) w x; generalize freshR ivR w x = W3 at hx3 hb3 ⊢))
      obtain ⟨b5, hb5⟩ : ∃ b5, b5 = w.heap.size := ⟨_, rfl⟩
      rw [← hb5] at hx3 ⊢
      obtain ⟨-, r1, -, -, r4⟩ := iv_parts hx3
      have r1' : W3.cell? ⟨b5, 1, none⟩ = some (.int .i64 (k : Int)) := by rw [r1, hk]
      have g0 := below_cell hb3 c0
      have g4 := below_cell hb3 c4
      have gq := below_cell hb3 hqt
      have d1 := fun (z : Later W3) => z.cell r1'
      have d0 := fun (z : Later W3) => z.cell g0
      have dq := fun (z : Later W3) => z.cell gq
      have HB3 := Lib.hid hb3
      have KL3 := Lib.hid (fun (W : World) (hb : Below W3.heap.size W3 W) => KL.out W (bthen' hb3 hb))
      have HR4 := Lib.hid r4
      have HG4 := Lib.hid g4
      clear r1 r1' g0 g4 gq hx3 hb3 c0 c4 hqt c21 hb5 KL r4
      (try simp only [Act.put])
      refine wp_region_later (by kernel_rfl) (by kernel_rfl) (Below.refl _ _) ?_
      repeat (first
        | go_big_quiet_skip
        | (go_big_quiet_want; (go_big_quiet_op; first | go_big_quiet_on | go_big_quiet_call ((go_at_call 15; exact Calls.later (KL3.out _ (Later.h _)))))))
      refine wpQuiet_nil ?_
      rintro ⟨W4, hb4⟩
      dsimp only
      clear d1 d0 dq
      go_wp2_with fail
      go_ret
      exact ⟨rfl, bthen' HB3.out hb4⟩
    · rw [if_neg h1]
      have q1 : decide (T0.q ≤ loadT L (k : Int)) = false := by simp; omega
      have q1' : decide (loadT L (k : Int) ≥ T0.q) = false := by simp; omega
      clear h1
      by_cases h2 : c.cap ≤ x.ld
      · rw [if_pos h2]
        have q3 : decide (c.cap ≤ x.ld) = true := by simp; omega
        have q3' : decide (x.ld ≥ c.cap) = true := by simp; omega
        clear h2
        go_enter Try.func19, Try.ntmps19
        go_upto_region 6 with (first
          | (refine wl_lookupOk (intK_ok Try.underlying3) rfl _ _ 62 32 rfl Try.underlying62 (z := ivR.val zeroIv) zeroInv rfl HML.out x.no rfl ?_; rw [HG.out, HS.out])
          | (refine wpList_store_mid rfl 32 _ _ rfl w.heap.size 0 (ivR.cells x).toArray rfl rfl (freshR_there ivOk w x) (ivOk.row' x) (ivOk.one' x) ?_; show wpList _ _ _ _ _ (freshR ivR w x); have hx3 := freshR_range ivOk w x; have hb3 := freshR_below (R := ivR) w x; generalize freshR ivR w x = W3 at hx3 hb3 ⊢))
        obtain ⟨b5, hb5⟩ : ∃ b5, b5 = w.heap.size := ⟨_, rfl⟩
        rw [← hb5] at hx3 ⊢
        obtain ⟨-, r1, -, -, r4⟩ := iv_parts hx3
        have r1' : W3.cell? ⟨b5, 1, none⟩ = some (.int .i64 (k : Int)) := by rw [r1, hk]
        have g0 := below_cell hb3 c0
        have g4 := below_cell hb3 c4
        have gq := below_cell hb3 hqt
        have d1 := fun (z : Later W3) => z.cell r1'
        have d0 := fun (z : Later W3) => z.cell g0
        have dq := fun (z : Later W3) => z.cell gq
        have HB3 := Lib.hid hb3
        have KL3 := Lib.hid (fun (W : World) (hb : Below W3.heap.size W3 W) => KL.out W (bthen' hb3 hb))
        have HR4 := Lib.hid r4
        have HG4 := Lib.hid g4
        clear r1 r1' g0 g4 gq hx3 hb3 c0 c4 hqt c21 hb5 KL r4
        (try simp only [Act.put])
        refine wp_region_later (by kernel_rfl) (by kernel_rfl) (Below.refl _ _) ?_
        repeat (first
          | go_big_quiet_skip
          | (go_big_quiet_want; (go_big_quiet_op; first | go_big_quiet_on | go_big_quiet_call ((go_at_call 15; exact Calls.later (KL3.out _ (Later.h _)))))))
        refine wpQuiet_nil ?_
        rintro ⟨W4, hb4⟩
        dsimp only
        clear d1 d0 dq
        have r4b := below_cell hb4 HR4.out
        have g4b := below_cell hb4 HG4.out
        have d4 := fun (z : Later W4) => z.cell r4b
        have d5 := fun (z : Later W4) => z.cell g4b
        have HB4 := Lib.hid (bthen' HB3.out hb4)
        clear r4b g4b hb4
        go_upto_region 8 with fail
        (try simp only [Act.put])
        refine wp_region_later (by kernel_rfl) (by kernel_rfl) (Below.refl _ _) ?_
        repeat (first
          | go_big_quiet_skip
          | (go_big_quiet_want; (go_big_quiet_op; go_big_quiet_on)))
        refine wpQuiet_nil ?_
        rintro ⟨W5, hb5⟩
        dsimp only
        clear d4 d5
        go_wp2_with fail
        go_ret
        exact ⟨rfl, bthen' HB4.out hb5⟩
      · rw [if_neg h2]
        have q3 : decide (c.cap ≤ x.ld) = false := by simp; omega
        have q3' : decide (x.ld ≥ c.cap) = false := by simp; omega
        clear h2
        go_enter Try.func19, Try.ntmps19
        go_upto_region 6 with (first
          | (refine wl_lookupOk (intK_ok Try.underlying3) rfl _ _ 62 32 rfl Try.underlying62 (z := ivR.val zeroIv) zeroInv rfl HML.out x.no rfl ?_; rw [HG.out, HS.out])
          | (refine wpList_store_mid rfl 32 _ _ rfl w.heap.size 0 (ivR.cells x).toArray rfl rfl (freshR_there ivOk w x) (ivOk.row' x) (ivOk.one' x) ?_; show wpList _ _ _ _ _ (freshR ivR w x); have hx3 := freshR_range ivOk w x; have hb3 := freshR_below (R := ivR) w x; generalize freshR ivR w x = W3 at hx3 hb3 ⊢))
        obtain ⟨b5, hb5⟩ : ∃ b5, b5 = w.heap.size := ⟨_, rfl⟩
        rw [← hb5] at hx3 ⊢
        obtain ⟨-, r1, -, -, r4⟩ := iv_parts hx3
        have r1' : W3.cell? ⟨b5, 1, none⟩ = some (.int .i64 (k : Int)) := by rw [r1, hk]
        have g0 := below_cell hb3 c0
        have g4 := below_cell hb3 c4
        have gq := below_cell hb3 hqt
        have d1 := fun (z : Later W3) => z.cell r1'
        have d0 := fun (z : Later W3) => z.cell g0
        have dq := fun (z : Later W3) => z.cell gq
        have HB3 := Lib.hid hb3
        have KL3 := Lib.hid (fun (W : World) (hb : Below W3.heap.size W3 W) => KL.out W (bthen' hb3 hb))
        have HR4 := Lib.hid r4
        have HG4 := Lib.hid g4
        clear r1 r1' g0 g4 gq hx3 hb3 c0 c4 hqt c21 hb5 KL r4
        (try simp only [Act.put])
        refine wp_region_later (by kernel_rfl) (by kernel_rfl) (Below.refl _ _) ?_
        repeat (first
          | go_big_quiet_skip
          | (go_big_quiet_want; (go_big_quiet_op; first | go_big_quiet_on | go_big_quiet_call ((go_at_call 15; exact Calls.later (KL3.out _ (Later.h _)))))))
        refine wpQuiet_nil ?_
        rintro ⟨W4, hb4⟩
        dsimp only
        clear d1 d0 dq
        have r4b := below_cell hb4 HR4.out
        have g4b := below_cell hb4 HG4.out
        have d4 := fun (z : Later W4) => z.cell r4b
        have d5 := fun (z : Later W4) => z.cell g4b
        have HB4 := Lib.hid (bthen' HB3.out hb4)
        clear r4b g4b hb4
        go_upto_region 8 with fail
        (try simp only [Act.put])
        refine wp_region_later (by kernel_rfl) (by kernel_rfl) (Below.refl _ _) ?_
        repeat (first
          | go_big_quiet_skip
          | (go_big_quiet_want; (go_big_quiet_op; go_big_quiet_on)))
        refine wpQuiet_nil ?_
        rintro ⟨W5, hb5⟩
        dsimp only
        clear d4 d5
        go_wp2_with fail
        go_ret
        exact ⟨rfl, bthen' HB4.out hb5⟩
end Go.Proofs.Ytogajmbkjojdhaa
