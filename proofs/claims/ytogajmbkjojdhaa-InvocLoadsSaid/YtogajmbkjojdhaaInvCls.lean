/- Invocations: Close, Room, Admit, Leave. -/
import Derived.Test.YtogajmbkjojdhaaInvPl
set_option linter.unusedVariables false
set_option linter.unusedSimpArgs false
set_option maxRecDepth 100000
namespace Go.Proofs.Ytogajmbkjojdhaa
open Go.RowKit

def CloseL (L : List Iv) (n : Int) : List Iv := if closeI L n = 0 then dropI L n else L
def DoneI (w : World) (v nm lm : Nat) (c : Cfg) (last : Int) (L : List Iv) (r : Int) (e : Ending) (w' : World) : Prop := e = .returned (.int .i64 r) ∧ UpdP (InvB v nm lm) w w' ∧ InvM w' v nm lm c last L
theorem close_nil (w : World) (n : Int) : Calls Try.prog 12 #[.pointer none, .int .i64 n] w fun e w' => e = .returned (.int .i64 19) ∧ Below w.heap.size w w' := by
  go_enter Try.func12, Try.ntmps12
  go_wp2_with fail
  go_ret
  exact ⟨rfl, Below.refl _ _⟩
set_option maxHeartbeats 8000000 in
theorem close_any {w : World} {v nm lm : Nat} {c : Cfg} {last : Int} {L : List Iv} (h : InvM w v nm lm c last L) (ho : InvOk c last L) (n : Int) :
    Calls Try.prog 12 #[.pointer (some ⟨v, 0, none⟩), .int .i64 n] w (DoneI w v nm lm c last (CloseL L n) (closeI L n)) := by
  have c21 := h.cel.get (i := 21) rfl
  have HML := Lib.hid h.ml.toF
  have H := Lib.hid h
  cases hf : fNo L n with
  | none =>
    have eC := Lib.hid (show closeI L n = 7 from by unfold closeI; rw [hf])
    have eL := Lib.hid (show CloseL L n = L from by unfold CloseL; rw [eC.out, if_neg (by decide)])
    rw [eC.out, eL.out]
    have HG := Lib.hid (show (noF L n).getD (ivR.val zeroIv) = ivR.val zeroIv from by unfold noF; rw [hf]; rfl)
    have HS := Lib.hid (show (noF L n).isSome = false from by unfold noF; rw [hf]; rfl)
    clear hf h ho eC eL
    go_enter Try.func12, Try.ntmps12
    go_wp2_with (first
      | (refine wl_lookupOk (intK_ok Try.underlying3) rfl _ _ 62 32 rfl Try.underlying62 (z := ivR.val zeroIv) zeroInv rfl HML.out n rfl ?_; rw [HG.out, HS.out])
      | (refine wpList_store_mid rfl 32 _ _ rfl w.heap.size 0 (ivR.cells zeroIv).toArray rfl rfl (freshR_there ivOk w zeroIv) (ivOk.row' zeroIv) (ivOk.one' zeroIv) ?_; show wpList _ _ _ _ _ (freshR ivR w zeroIv); have hb3 := freshR_below (R := ivR) w zeroIv; generalize freshR ivR w zeroIv = W3 at hb3 ⊢))
    go_ret
    exact ⟨rfl, UpdP.ofB hb3, H.out.below hb3⟩
  | some x =>
    obtain ⟨hxL, rfl⟩ := fNo_mem hf
    have HG := Lib.hid (show (noF L x.no).getD (ivR.val zeroIv) = ivR.val x from by unfold noF; rw [hf]; rfl)
    have HS := Lib.hid (show (noF L x.no).isSome = true from by unfold noF; rw [hf]; rfl)
    by_cases hld : 0 < x.ld
    · have eC := Lib.hid (show closeI L x.no = 10 from by unfold closeI; rw [hf]; simp [hld])
      have eL := Lib.hid (show CloseL L x.no = L from by unfold CloseL; rw [eC.out, if_neg (by decide)])
      rw [eC.out, eL.out]
      have q1 : decide (x.ld > 0) = true := by simp; omega
      have q2 : decide (0 < x.ld) = true := by simp; omega
      clear hf h ho eC eL hxL hld
      go_enter Try.func12, Try.ntmps12
      go_wp2_with (first
        | (refine wl_lookupOk (intK_ok Try.underlying3) rfl _ _ 62 32 rfl Try.underlying62 (z := ivR.val zeroIv) zeroInv rfl HML.out x.no rfl ?_; rw [HG.out, HS.out])
        | (refine wpList_store_mid rfl 32 _ _ rfl w.heap.size 0 (ivR.cells x).toArray rfl rfl (freshR_there ivOk w x) (ivOk.row' x) (ivOk.one' x) ?_; show wpList _ _ _ _ _ (freshR ivR w x); have hx3 := freshR_range ivOk w x; have hb3 := freshR_below (R := ivR) w x; generalize freshR ivR w x = W3 at hx3 hb3 ⊢; have g4 := iv_ld hx3))
      go_ret
      exact ⟨rfl, UpdP.ofB hb3, H.out.below hb3⟩
    · have eC := Lib.hid (show closeI L x.no = 0 from by unfold closeI; rw [hf]; simp [hld])
      have eL := Lib.hid (show CloseL L x.no = dropI L x.no from by unfold CloseL; rw [eC.out, if_pos rfl])
      rw [eC.out, eL.out]
      have q1 : decide (x.ld > 0) = false := by simp; omega
      have q2 : decide (0 < x.ld) = false := by simp; omega
      have HDL := Lib.hid (drop_len ho.asc hxL)
      have HFN := Lib.hid (fun k => fNo_drop ho.asc x.no k)
      have HFM := Lib.hid (fun t s => fNm_drop ho hxL t s)
      have HSM := Lib.hid (show (nmF L (x.tn, x.nm)).isSome = true from by unfold nmF; rw [fNm_of ho.names hxL]; rfl)
      clear hf h ho eC eL hxL hld
      go_enter Try.func12, Try.ntmps12
      go_upto_region 8 with (first
        | (refine wl_lookupOk (intK_ok Try.underlying3) rfl _ _ 62 32 rfl Try.underlying62 (z := ivR.val zeroIv) zeroInv rfl HML.out x.no rfl ?_; rw [HG.out, HS.out])
        | (refine wpList_store_mid rfl 32 _ _ rfl w.heap.size 0 (ivR.cells x).toArray rfl rfl (freshR_there ivOk w x) (ivOk.row' x) (ivOk.one' x) ?_; show wpList _ _ _ _ _ (freshR ivR w x); have hx3 := freshR_range ivOk w x; have hb3 := freshR_below (R := ivR) w x; generalize freshR ivR w x = W3 at hx3 hb3 ⊢; have g4 := iv_ld hx3))
      have hlts := H.out.lts
      obtain ⟨b5, hb5⟩ : ∃ b5, b5 = w.heap.size := ⟨_, rfl⟩
      have hne5 : b5 ≠ lm ∧ b5 ≠ nm := by omega
      rw [← hb5] at hx3 ⊢
      have HX3 := Lib.hid hx3
      have HB3 := Lib.hid hb3
      have HM3 := Lib.hid (H.out.below hb3)
      have HML3 := Lib.hid HM3.out.ml
      have c21b := HM3.out.cel.get (i := 21) rfl
      clear c21 hlts hb5 hx3 hb3 g4
      go_upto_region 9 with (refine wl_deleteS (intK_ok Try.underlying3) rfl _ _ 62 32 _ rfl Try.underlying62 rfl HML3.out x.no rfl ?_; intro W4 hu4 hm4)
      rw [HS.out] at hm4
      have HML4 := Lib.hid (show MapS (intK 3) W4 lm (noF (dropI L x.no)) (dropI L x.no).length from by
        have hl : L.length - 1 = (dropI L x.no).length := by have := HDL.out; omega
        have hm5 : MapS (intK 3) W4 lm (fun k => if k = x.no then none else noF L k) (L.length - 1) := hm4
        rw [hl] at hm5
        exact hm5.congr fun k => by
          unfold noF
          rw [HFN.out]
          by_cases hk : k = x.no
          · rw [if_pos hk, if_pos hk]; rfl
          · rw [if_neg hk, if_neg hk])
      have HMN4 := Lib.hid (HM3.out.mn.upd hu4 (by simpa using HM3.out.ne3))
      have HC4 := Lib.hid (HM3.out.cel.upd hu4 (by simpa using HM3.out.ne2))
      have HR4 := Lib.hid (hu4.range (by simpa using hne5.1) HX3.out)
      have HU4 := Lib.hid hu4
      clear hu4 hm4 c21b
      have c20 := HC4.out.get (i := 20) rfl
      obtain ⟨r0, r1, r2, -⟩ := iv_parts HR4.out
      have d0 := fun (z : Later W4) => z.cell c20
      have d2 := fun (z : Later W4) => z.cell r1
      have d3 := fun (z : Later W4) => z.cell r2
      clear c20 r0 r1 r2
      (try simp only [Act.put])
      refine wp_region_later_tail 9 (by kernel_rfl) (by kernel_rfl) (Below.refl _ _) ?_
      simp only [List.take_succ_cons, List.take_zero, List.drop_succ_cons, List.drop_zero]
      repeat (first
        | go_big_quiet_skip
        | (go_big_quiet_want; (go_big_quiet_op; go_big_quiet_on)))
      refine wpQuiet_nil ?_
      rintro ⟨W5, hb5⟩
      dsimp only
      clear d0 d2 d3
      have HMN5 := Lib.hid (HMN4.out.below hb5)
      have HML5 := Lib.hid (HML4.out.below hb5)
      have HC5 := Lib.hid (HC4.out.below hb5)
      have HB5 := Lib.hid hb5
      clear hb5
      go_wp2_with (refine wl_deleteS nkOk rfl _ _ 61 3 _ rfl Try.underlying61 rfl HMN5.out (x.tn, x.nm) rfl ?_; intro W6 hu6 hm6)
      go_ret
      rw [HSM.out] at hm6
      have e1 : UpdP (InvB v nm lm) w W4 := wt_gr (UpdP.ofB HB3.out) (UpdP.of HU4.out (fun k hk => .inl (by simp at hk; exact .inr (.inr hk))))
      have e2 : UpdP (InvB v nm lm) w W6 := wt_gr (wt_gr e1 (UpdP.ofB HB5.out)) (UpdP.of hu6 (fun k hk => .inl (by simp at hk; exact .inr (.inl hk))))
      refine ⟨rfl, e2, HC5.out.upd hu6 (by simpa using H.out.ne1), H.out.ne1, H.out.ne2, H.out.ne3, ?_, HML5.out.upd hu6 (by simpa using Ne.symm H.out.ne3)⟩
      have hl : L.length - 1 = (dropI L x.no).length := by have := HDL.out; omega
      have hm7 : MapS nkK W6 nm (fun k => if k = (x.tn, x.nm) then none else nmF L k) (L.length - 1) := hm6
      rw [hl] at hm7
      exact hm7.congr fun k => by
        unfold nmF
        rw [HFM.out]
        by_cases hk : k = (x.tn, x.nm)
        · rw [if_pos hk, if_pos hk]; rfl
        · rw [if_neg hk, if_neg hk]
end Go.Proofs.Ytogajmbkjojdhaa
