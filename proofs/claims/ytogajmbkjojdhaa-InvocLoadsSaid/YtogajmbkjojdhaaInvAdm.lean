/- Invocations: Admit, Leave. -/
import Derived.Test.YtogajmbkjojdhaaInvRoom
set_option linter.unusedVariables false
set_option linter.unusedSimpArgs false
set_option maxRecDepth 100000
namespace Go.Proofs.Ytogajmbkjojdhaa
open Go.RowKit

theorem fresh_cel (w : World) (x : Iv) : Cel (freshR ivR w x) w.heap.size (ivR.cells x) := by
  have h := (Cel.new w 32 (ivR.cells zeroIv)).sets (ivR.cells x) 0
  exact h
theorem ld_cells (x : Iv) (n : Int) : (ivR.cells x).set 4 (.int .i64 n) = ivR.cells { x with ld := n } := rfl
theorem nm_more (L : List Iv) (n d : Int) (k : Nk) : nmF (moreI L n d) k = nmF L k := by
  have h := fNm_more L n d k.1 k.2
  unfold nmF
  have e : ∀ o : Option Iv, (o.map fun x => Value.int .i64 x.no) = (o.map Iv.no).map (Value.int .i64) := fun o => by cases o <;> rfl
  rw [e, e, h]
/-- The row of an invocation is turned in the map. -/
theorem InvM.more {w w' : World} {v nm lm : Nat} {c : Cfg} {last : Int} {L : List Iv} (h : InvM w v nm lm c last L) {n d : Int} {x : Iv} (hf : fNo L n = some x) (hu : Upd [lm] w w')
    (hm : MapS (intK 3) w' lm (fun k => if k = n then some (ivR.val { x with ld := x.ld + d }) else noF L k) L.length) : InvM w' v nm lm c last (moreI L n d) := by
  refine ⟨h.cel.upd hu (by simpa using h.ne2), h.ne1, h.ne2, h.ne3, ?_, ?_⟩
  · rw [more_len]
    exact (h.mn.upd hu (by simpa using h.ne3)).congr fun k => (nm_more L n d k).symm
  · rw [more_len]
    exact hm.congr fun k => by
      unfold noF
      rw [fNo_more]
      by_cases hk : k = n
      · rw [if_pos hk, if_pos hk, hf]; rfl
      · rw [if_neg hk, if_neg hk]
def admitL (c : Cfg) (L : List Iv) (n : Int) : List Iv := if roomI c L n = 0 then moreI L n 1 else L
def leaveL (L : List Iv) (n : Int) : List Iv := if leaveB L n = true then moreI L n (-1) else L
theorem room_zero {c : Cfg} {L : List Iv} {n : Int} (h : roomI c L n = 0) : ∃ x, fNo L n = some x ∧ loadT L x.tn < quota c x.tn ∧ x.ld < c.cap := by
  unfold roomI at h
  cases hf : fNo L n with
  | none => rw [hf] at h; cases h
  | some x =>
    rw [hf] at h
    simp only at h
    split at h
    · cases h
    split at h
    · cases h
    exact ⟨x, rfl, by omega, by omega⟩
theorem InvOk.admits {c : Cfg} {last : Int} {L : List Iv} (ho : InvOk c last L) (n : Int) : InvOk c last (admitL c L n) := by
  unfold admitL
  by_cases h : roomI c L n = 0
  · rw [if_pos h]
    obtain ⟨x, hf, -, hx⟩ := room_zero h
    refine ho.more n 1 fun y hy e => ?_
    have h1 := fNo_of ho.asc hy
    rw [e, hf] at h1
    obtain rfl := Option.some.inj h1
    have := ho.loads x hy
    omega
  · rw [if_neg h]; exact ho
theorem InvOk.leave {c : Cfg} {last : Int} {L : List Iv} (ho : InvOk c last L) (n : Int) : InvOk c last (leaveL L n) := by
  unfold leaveL
  by_cases h : leaveB L n = true
  · rw [if_pos h]
    refine ho.more n (-1) fun y hy e => ?_
    have h1 := fNo_of ho.asc hy
    rw [e] at h1
    unfold leaveB at h
    rw [h1] at h
    have := of_decide_eq_true h
    have := ho.loads y hy
    omega
  · rw [if_neg h]; exact ho
theorem admit_nil (w : World) (n : Int) : Calls Try.prog 13 #[.pointer none, .int .i64 n] w (Chkd w 19) := by
  go_enter Try.func13, Try.ntmps13
  go_wp2_with (go_at_call 19; refine (room_nil _ _).mono ?_; rintro e W2 ⟨rfl, hb2⟩)
  go_ret
  exact ⟨rfl, hb2⟩
theorem leave_nil (w : World) (n : Int) : Calls Try.prog 14 #[.pointer none, .int .i64 n] w fun e w' => e = .returned (.bool false) ∧ Below w.heap.size w w' := by
  go_enter Try.func14, Try.ntmps14
  go_wp2_with (first
    | (go_at_call 11; refine (get_nil _ _).mono ?_; rintro e W2 ⟨rfl, hb2⟩)
    | (refine wpList_store_mid rfl 32 _ _ rfl W2.heap.size 0 (ivR.cells zeroIv).toArray rfl rfl (freshR_there ivOk W2 zeroIv) (ivOk.row' zeroIv) (ivOk.one' zeroIv) ?_; show wpList _ _ _ _ _ (freshR ivR W2 zeroIv); have hb3 := freshR_below (R := ivR) W2 zeroIv; generalize freshR ivR W2 zeroIv = W3 at hb3 ⊢))
  go_ret
  exact ⟨rfl, bthen' hb2 hb3⟩
set_option maxHeartbeats 8000000 in
theorem admit_any {w : World} {v nm lm : Nat} {c : Cfg} {last : Int} {L : List Iv} (h : InvM w v nm lm c last L) (hin : c.In w) (ho : InvOk c last L) (n : Int) (hL : L.length ≤ 100000) :
    Calls Try.prog 13 #[.pointer (some ⟨v, 0, none⟩), .int .i64 n] w (DoneI w v nm lm c last (admitL c L n) (roomI c L n)) := by
  have KR := Lib.hid (room_any h hin ho n hL)
  have H := Lib.hid h
  by_cases hr : roomI c L n = 0
  · have eL := Lib.hid (show admitL c L n = moreI L n 1 from by unfold admitL; rw [if_pos hr])
    rw [eL.out, hr]
    unfold Chkd at KR
    rw [hr] at KR
    obtain ⟨x, hf, -, hx⟩ := room_zero hr
    have hld := ho.loads x (fNo_mem hf).1
    have hcap := ho.cap
    have HG := Lib.hid (show (noF L n).getD (ivR.val zeroIv) = ivR.val x from by unfold noF; rw [hf]; rfl)
    have HS := Lib.hid (show (noF L n).isSome = true from by unfold noF; rw [hf]; rfl)
    have HF := Lib.hid hf
    clear h hin ho hr eL hf
    go_enter Try.func13, Try.ntmps13
    go_upto_region 4 with (go_at_call 19; refine KR.out.mono ?_; rintro e W2 ⟨rfl, hb2⟩)
    have H2 := Lib.hid (H.out.below hb2)
    have HB2 := Lib.hid hb2
    have c21 := H2.out.cel.get (i := 21) rfl
    have HML := Lib.hid H2.out.ml.toF
    clear hb2 KR
    go_upto_region 5 with (first
      | (refine wl_lookup (intK_ok Try.underlying3) rfl _ _ 62 32 rfl Try.underlying62 (z := ivR.val zeroIv) zeroInv rfl HML.out n rfl ?_; rw [HG.out])
      | (refine wpList_store_mid rfl 32 _ _ rfl W2.heap.size 0 (ivR.cells x).toArray rfl rfl (freshR_there ivOk W2 x) (ivOk.row' x) (ivOk.one' x) ?_; show wpList _ _ _ _ _ (freshR ivR W2 x); have hc3 := fresh_cel W2 x; have hb3 := freshR_below (R := ivR) W2 x; generalize freshR ivR W2 x = W3 at hc3 hb3 ⊢))
    have hlts := H2.out.lts
    obtain ⟨b5, hb5⟩ : ∃ b5, b5 = W2.heap.size := ⟨_, rfl⟩
    have hne5 : b5 ≠ lm ∧ b5 ≠ nm ∧ b5 ≠ v := by omega
    rw [← hb5] at hc3 ⊢
    have hq5 := hb5
    have g4 := hc3.get (i := 4) rfl
    have g4f := hc3.free (i := 4) rfl
    have HC3 := Lib.hid hc3
    have H3 := Lib.hid (H2.out.below hb3)
    have HB3 := Lib.hid (bthen' HB2.out hb3)
    have hb5w : w.heap.size ≤ b5 := by have := HB2.out.size; omega
    clear hc3 hb3 hlts hb5 hq5 c21
    go_upto_region 6 with fail
    have hu4 : Upd [b5] W3 (W3.setCell ⟨b5, 4, none⟩ (.int .i64 (x.ld + 1))) := (Upd.refl [b5] _).setCell (by simp) _
    have hc4 := HC3.out.set 4 (.int .i64 (x.ld + 1))
    rw [ld_cells] at hc4
    generalize W3.setCell ⟨b5, 4, none⟩ (.int .i64 (x.ld + 1)) = W4 at hu4 hc4 ⊢
    have HM4 := Lib.hid (H3.out.upd hu4 (by simpa using Ne.symm hne5.2.2) (by simpa using Ne.symm hne5.2.1) (by simpa using Ne.symm hne5.1))
    have HU4 := Lib.hid (hu4.toBelow HB3.out HB3.out.size (by simpa using hb5w))
    have c21 := HM4.out.cel.get (i := 21) rfl
    have hr4 := hc4.range
    have d0 := fun (z : Later W4) => z.cell c21
    have RC := Lib.hid (fun (w' : World) (hx : ∃ z : Later W4, w' = z.w) => (show w'.rangeAt b5 0 (ivR.cells { x with ld := x.ld + 1 }) from by obtain ⟨z, rfl⟩ := hx; exact below_range z.h hr4))
    clear hu4 hc4 hr4 c21 g4 g4f
    (try simp only [Act.put])
    refine wp_region_later_tail 6 (by kernel_rfl) (by kernel_rfl) (Below.refl _ _) ?_
    simp only [List.take_succ_cons, List.take_zero, List.drop_succ_cons, List.drop_zero]
    repeat (first
      | go_big_quiet_skip
      | (go_big_quiet_want; first
        | (refine quiet_load_mid 32 _ rfl b5 0 rfl (ivR.cells { x with ld := x.ld + 1 }) _ RC.out Try.underlying32 rfl (ivOk.row { x with ld := x.ld + 1 }) ?_; simp only [Act.put, List.setIfInBounds_toArray, List.set_cons_succ, List.set_cons_zero]; go_big_quiet_on)
        | (go_big_quiet_op; go_big_quiet_on)))
    refine wpQuiet_nil ?_
    rintro ⟨W5, hb5⟩
    dsimp only
    clear d0 RC
    have HM5 := Lib.hid (HM4.out.below hb5)
    have HB5 := Lib.hid (bthen' HU4.out hb5)
    have HML5 := Lib.hid HM5.out.ml
    clear hb5
    go_wp2_with (refine wl_updateS (intK_ok Try.underlying3) rfl _ _ _ 62 32 rfl Try.underlying62 rfl HML5.out n rfl (ivR.val { x with ld := x.ld + 1 }) rfl ?_; intro W6 hu6 hm6)
    go_ret
    rw [HS.out] at hm6
    exact ⟨rfl, wt_gr (UpdP.ofB HB5.out) (UpdP.of hu6 (fun k hk => .inl (by simp at hk; exact .inr (.inr hk)))), HM5.out.more HF.out hu6 hm6⟩
  · have eL := Lib.hid (show admitL c L n = L from by unfold admitL; rw [if_neg hr])
    rw [eL.out]
    obtain ⟨r, hre⟩ : ∃ r, r = roomI c L n := ⟨_, rfl⟩
    unfold Chkd at KR
    rw [← hre] at KR hr ⊢
    have hrb : (r != 0) = true := by simp [hr]
    clear h hin ho hr eL hre
    go_enter Try.func13, Try.ntmps13
    go_wp2_with (go_at_call 19; refine KR.out.mono ?_; rintro e W2 ⟨rfl, hb2⟩)
    go_ret
    exact ⟨rfl, UpdP.ofB hb2, H.out.below hb2⟩
set_option maxHeartbeats 8000000 in
theorem leave_any {w : World} {v nm lm : Nat} {c : Cfg} {last : Int} {L : List Iv} (h : InvM w v nm lm c last L) (ho : InvOk c last L) (n : Int) :
    Calls Try.prog 14 #[.pointer (some ⟨v, 0, none⟩), .int .i64 n] w fun e w' => e = .returned (.bool (leaveB L n)) ∧ UpdP (InvB v nm lm) w w' ∧ InvM w' v nm lm c last (leaveL L n) := by
  have KG := Lib.hid (get_any h n)
  have H := Lib.hid h
  unfold GotI at KG
  cases hf : fNo L n with
  | none =>
    rw [hf] at KG
    have eB := Lib.hid (show leaveB L n = false from by unfold leaveB; rw [hf])
    have eL := Lib.hid (show leaveL L n = L from by unfold leaveL; rw [eB.out, if_neg (by decide)])
    rw [eB.out, eL.out]
    clear h ho eB eL hf
    go_enter Try.func14, Try.ntmps14
    go_wp2_with (first
      | (go_at_call 11; refine KG.out.mono ?_; rintro e W2 ⟨rfl, hb2⟩)
      | (refine wpList_store_mid rfl 32 _ _ rfl W2.heap.size 0 (ivR.cells zeroIv).toArray rfl rfl (freshR_there ivOk W2 zeroIv) (ivOk.row' zeroIv) (ivOk.one' zeroIv) ?_; show wpList _ _ _ _ _ (freshR ivR W2 zeroIv); have hb3 := freshR_below (R := ivR) W2 zeroIv; generalize freshR ivR W2 zeroIv = W3 at hb3 ⊢))
    go_ret
    have hb := bthen' hb2 hb3
    exact ⟨rfl, UpdP.ofB hb, H.out.below hb⟩
  | some x =>
    rw [hf] at KG
    have hld := ho.loads x (fNo_mem hf).1
    have hcap := ho.cap
    have HS := Lib.hid (show (noF L n).isSome = true from by unfold noF; rw [hf]; rfl)
    have HF := Lib.hid hf
    by_cases h0 : x.ld = 0
    · have eB := Lib.hid (show leaveB L n = false from by unfold leaveB; rw [hf]; simp [h0])
      have eL := Lib.hid (show leaveL L n = L from by unfold leaveL; rw [eB.out, if_neg (by decide)])
      rw [eB.out, eL.out]
      have q0 : (x.ld == 0) = true := by simp [h0]
      clear h ho eB eL hf h0
      go_enter Try.func14, Try.ntmps14
      go_wp2_with (first
        | (go_at_call 11; refine KG.out.mono ?_; rintro e W2 ⟨rfl, hb2⟩)
        | (refine wpList_store_mid rfl 32 _ _ rfl W2.heap.size 0 (ivR.cells x).toArray rfl rfl (freshR_there ivOk W2 x) (ivOk.row' x) (ivOk.one' x) ?_; show wpList _ _ _ _ _ (freshR ivR W2 x); have hx3 := freshR_range ivOk W2 x; have hb3 := freshR_below (R := ivR) W2 x; generalize freshR ivR W2 x = W3 at hx3 hb3 ⊢; have g4 := iv_ld hx3))
      go_ret
      have hb := bthen' hb2 hb3
      exact ⟨rfl, UpdP.ofB hb, H.out.below hb⟩
    · have eB := Lib.hid (show leaveB L n = true from by unfold leaveB; rw [hf]; simp [h0])
      have eL := Lib.hid (show leaveL L n = moreI L n (-1) from by unfold leaveL; rw [eB.out, if_pos rfl])
      rw [eB.out, eL.out]
      have q0 : (x.ld == 0) = false := by simp [h0]
      clear h ho eB eL hf h0
      go_enter Try.func14, Try.ntmps14
      go_upto_if 19 with (first
        | (go_at_call 11; refine KG.out.mono ?_; rintro e W2 ⟨rfl, hb2⟩)
        | (refine wpList_store_mid rfl 32 _ _ rfl W2.heap.size 0 (ivR.cells x).toArray rfl rfl (freshR_there ivOk W2 x) (ivOk.row' x) (ivOk.one' x) ?_; show wpList _ _ _ _ _ (freshR ivR W2 x); have hc3 := fresh_cel W2 x; have hb3 := freshR_below (R := ivR) W2 x; generalize freshR ivR W2 x = W3 at hc3 hb3 ⊢; have g4 := hc3.get (i := 4) rfl))
      have H2 := Lib.hid (H.out.below hb2)
      have HB2 := Lib.hid hb2
      clear hb2 KG
      have hlts := H2.out.lts
      obtain ⟨b5, hb5⟩ : ∃ b5, b5 = W2.heap.size := ⟨_, rfl⟩
      have hne5 : b5 ≠ lm ∧ b5 ≠ nm ∧ b5 ≠ v := by omega
      rw [← hb5] at hc3 ⊢
      have hq5 := hb5
      replace g4 := hc3.get (i := 4) rfl
      have g4f := hc3.free (i := 4) rfl
      have HC3 := Lib.hid hc3
      have H3 := Lib.hid (H2.out.below hb3)
      have HB3 := Lib.hid (bthen' HB2.out hb3)
      have hb5w : w.heap.size ≤ b5 := by have := HB2.out.size; omega
      clear hc3 hb3 hlts hb5 hq5
      go_upto_region 5 with fail
      rw [show x.ld - 1 = x.ld + -1 from Int.sub_eq_add_neg]
      have hu4 : Upd [b5] W3 (W3.setCell ⟨b5, 4, none⟩ (.int .i64 (x.ld + -1))) := (Upd.refl [b5] _).setCell (by simp) _
      have hc4 := HC3.out.set 4 (.int .i64 (x.ld + -1))
      rw [ld_cells] at hc4
      generalize W3.setCell ⟨b5, 4, none⟩ (.int .i64 (x.ld + -1)) = W4 at hu4 hc4 ⊢
      have HM4 := Lib.hid (H3.out.upd hu4 (by simpa using Ne.symm hne5.2.2) (by simpa using Ne.symm hne5.2.1) (by simpa using Ne.symm hne5.1))
      have HU4 := Lib.hid (hu4.toBelow HB3.out HB3.out.size (by simpa using hb5w))
      have c21 := HM4.out.cel.get (i := 21) rfl
      have hr4 := hc4.range
      have d0 := fun (z : Later W4) => z.cell c21
      have RC := Lib.hid (fun (w' : World) (hx : ∃ z : Later W4, w' = z.w) => (show w'.rangeAt b5 0 (ivR.cells { x with ld := x.ld + -1 }) from by obtain ⟨z, rfl⟩ := hx; exact below_range z.h hr4))
      clear hu4 hc4 hr4 c21 g4 g4f
      (try simp only [Act.put])
      refine wp_region_later_tail 6 (by kernel_rfl) (by kernel_rfl) (Below.refl _ _) ?_
      simp only [List.take_succ_cons, List.take_zero, List.drop_succ_cons, List.drop_zero]
      repeat (first
        | go_big_quiet_skip
        | (go_big_quiet_want; first
          | (refine quiet_load_mid 32 _ rfl b5 0 rfl (ivR.cells { x with ld := x.ld + -1 }) _ RC.out Try.underlying32 rfl (ivOk.row { x with ld := x.ld + -1 }) ?_; simp only [Act.put, List.setIfInBounds_toArray, List.set_cons_succ, List.set_cons_zero]; go_big_quiet_on)
          | (go_big_quiet_op; go_big_quiet_on)))
      refine wpQuiet_nil ?_
      rintro ⟨W5, hb5⟩
      dsimp only
      clear d0 RC
      have HM5 := Lib.hid (HM4.out.below hb5)
      have HB5 := Lib.hid (bthen' HU4.out hb5)
      have HML5 := Lib.hid HM5.out.ml
      clear hb5
      go_wp2_with (refine wl_updateS (intK_ok Try.underlying3) rfl _ _ _ 62 32 rfl Try.underlying62 rfl HML5.out n rfl (ivR.val { x with ld := x.ld + -1 }) rfl ?_; intro W6 hu6 hm6)
      go_ret
      rw [HS.out] at hm6
      exact ⟨rfl, wt_gr (UpdP.ofB HB5.out) (UpdP.of hu6 (fun k hk => .inl (by simp at hk; exact .inr (.inr hk)))), HM5.out.more HF.out hu6 hm6⟩
end Go.Proofs.Ytogajmbkjojdhaa
