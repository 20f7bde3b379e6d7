/- Invocations: Open, Close. -/
import Derived.Test.YtogajmbkjojdhaaInvPut
set_option linter.unusedVariables false
set_option linter.unusedSimpArgs false
set_option maxRecDepth 100000
namespace Go.Proofs.Ytogajmbkjojdhaa
open Go.RowKit

theorem chk_zero {c : Cfg} {L : List Iv} {t : Int} {s : ByteArray} {wt : Int} (h : chkI c L t s wt = 0) : (0 ≤ t ∧ t < (c.T.length : Int)) ∧ nameB s.data.toList = true ∧ (1 ≤ wt ∧ wt ≤ c.weight) ∧ fNm L t s = none ∧ (cntT L t : Int) < c.invs := by
  rw [chk_cases] at h
  split at h
  · cases h
  split at h
  · cases h
  split at h
  · cases h
  split at h
  · cases h
  split at h
  · cases h
  split at h
  · cases h
  split at h
  · cases h
  rename_i a1 a2 a3 a4 a5 a6 a7
  refine ⟨by omega, by simpa using a3, by omega, ?_, by omega⟩
  cases hf : fNm L t s with
  | none => rfl
  | some x => rw [hf] at a6; simp at a6
def openL (c : Cfg) (last : Int) (L : List Iv) (t : Int) (s : ByteArray) (wt : Int) : List Iv := if chkI c L t s wt = 0 then L ++ [⟨last + 1, t, s, wt, 0⟩] else L
def openN (c : Cfg) (last : Int) (L : List Iv) (t : Int) (s : ByteArray) (wt : Int) : Int := if chkI c L t s wt = 0 then last + 1 else last
def openR (c : Cfg) (last : Int) (L : List Iv) (t : Int) (s : ByteArray) (wt : Int) : Int := if chkI c L t s wt = 0 then last + 1 else 0
theorem InvOk.open {c : Cfg} {last : Int} {L : List Iv} (ho : InvOk c last L) (hcap : 0 ≤ c.cap) (t : Int) (s : ByteArray) (wt : Int) (hs : s.size ≤ 9223372036854775807) (hl : last + 1 < 9223372036854775807) : InvOk c (openN c last L t s wt) (openL c last L t s wt) := by
  unfold openN openL
  by_cases hc : chkI c L t s wt = 0
  · rw [if_pos hc, if_pos hc]
    obtain ⟨h1, h2, h3, h4, h5⟩ := chk_zero hc
    have hlow := ho.last.1
    have hm : ∀ {P : Iv → Prop}, (∀ x ∈ L, P x) → P ⟨last + 1, t, s, wt, 0⟩ → ∀ x ∈ L ++ [(⟨last + 1, t, s, wt, 0⟩ : Iv)], P x := fun {P} a b x hx => by
      rcases List.mem_append.1 hx with hx | hx
      · exact a x hx
      · simp at hx; subst hx; exact b
    refine ⟨?_, hm ho.low (by show 0 < last + 1; omega), hm (fun x hx => by have := ho.high x hx; omega) (Int.le_refl _), ?_, hm ho.tens h1, hm ho.loads ⟨Int.le_refl _, hcap⟩, ho.cap, ⟨by omega, by omega⟩, hm ho.nms hs⟩
    · rw [List.pairwise_append]
      refine ⟨ho.asc, List.pairwise_singleton _ _, fun x hx y hy => ?_⟩
      simp at hy; subst hy
      have := ho.high x hx
      show x.no < last + 1
      omega
    · rw [List.pairwise_append]
      refine ⟨ho.names, List.pairwise_singleton _ _, fun x hx y hy => ?_⟩
      simp at hy; subst hy
      exact fNm_none.1 h4 x hx
  · rw [if_neg hc, if_neg hc]
    exact ho
theorem built4 (n t wt : Int) (s : ByteArray) : Try.prog.built 32 [(0, .int .i64 n), (1, .int .i64 t), (2, .string s), (3, .int .i64 wt)] = some (ivR.cells ⟨n, t, s, wt, 0⟩).toArray := by kernel_rfl
theorem InvM.setLast {w : World} {v nm lm : Nat} {c : Cfg} {last : Int} {L : List Iv} (h : InvM w v nm lm c last L) (n : Int) : InvM (w.setCell ⟨v, 19, none⟩ (.int .i64 n)) v nm lm c n L := by
  have hu : Upd [v] w (w.setCell ⟨v, 19, none⟩ (.int .i64 n)) := (Upd.refl [v] _).setCell (by simp) _
  exact ⟨h.cel.set 19 _, h.ne1, h.ne2, h.ne3, h.mn.upd hu (by simpa using Ne.symm h.ne1), h.ml.upd hu (by simpa using Ne.symm h.ne2)⟩
def OpenP (w : World) (v nm lm : Nat) (c : Cfg) (last : Int) (L : List Iv) (r e1 : Int) (e : Ending) (w' : World) : Prop := e = .returned (.tuple #[.int .i64 r, .int .i64 e1]) ∧ UpdP (InvB v nm lm) w w' ∧ InvM w' v nm lm c last L
theorem open_nil (w : World) (t : Int) (s : ByteArray) (wt : Int) : Calls Try.prog 10 #[.pointer none, .int .i64 t, .string s, .int .i64 wt] w fun e w' => e = .returned (.tuple #[.int .i64 0, .int .i64 19]) ∧ Below w.heap.size w w' := by
  go_enter Try.func10, Try.ntmps10
  go_wp2_with (go_at_call 18; refine (may_nil _ _ _ _).mono ?_; rintro e W2 ⟨rfl, hb2⟩)
  go_ret2
  exact ⟨rfl, hb2⟩
set_option maxHeartbeats 4000000 in
theorem open_any {w : World} {v nm lm : Nat} {c : Cfg} {last : Int} {L : List Iv} (h : InvM w v nm lm c last L) (hin : c.In w) (ho : InvOk c last L) (t : Int) (s : ByteArray) (wt : Int) (hs : s.size ≤ 9223372036854775807) (hL : L.length ≤ 10000) (hl : last + 1 < 9223372036854775807) :
    Calls Try.prog 10 #[.pointer (some ⟨v, 0, none⟩), .int .i64 t, .string s, .int .i64 wt] w (OpenP w v nm lm c (openN c last L t s wt) (openL c last L t s wt) (openR c last L t s wt) (chkI c L t s wt)) := by
  have KM := Lib.hid (may_any h hin ho t s wt hs (by omega))
  by_cases hc : chkI c L t s wt = 0
  · obtain ⟨-, -, -, hnm, -⟩ := chk_zero hc
    have hno : fNo L (last + 1) = none := fNo_none.2 fun x hx e => by have := ho.high x hx; omega
    have eN := Lib.hid (show openN c last L t s wt = last + 1 from by unfold openN; rw [if_pos hc])
    have eL := Lib.hid (show openL c last L t s wt = L ++ [⟨last + 1, t, s, wt, 0⟩] from by unfold openL; rw [if_pos hc])
    have eR := Lib.hid (show openR c last L t s wt = last + 1 from by unfold openR; rw [if_pos hc])
    rw [eN.out, eL.out, eR.out, hc]
    unfold Chkd at KM
    rw [hc] at KM
    have hl0 := ho.last.1
    have HNO := Lib.hid hno
    have HNM := Lib.hid hnm
    have H := Lib.hid h
    have hw64 : wrap64 (last + 1) = last + 1 := by unfold wrap64; omega
    have HW64 := Lib.hid hw64
    clear h hin ho hno hnm hc eN eL eR hw64
    go_enter Try.func10, Try.ntmps10
    go_upto_region 4 with (go_at_call 18; refine KM.out.mono ?_; rintro e W2 ⟨rfl, hb2⟩)
    have H2 := Lib.hid (H.out.below hb2)
    have HB2 := Lib.hid hb2
    clear hb2 KM
    have c19 := H2.out.cel.get (i := 19) rfl
    have c19f := H2.out.cel.free (i := 19) rfl
    go_upto_region 5 with fail
    have hM3 := H2.out.setLast (last + 1)
    have hU3 : UpdP (InvB v nm lm) W2 (W2.setCell ⟨v, 19, none⟩ (.int .i64 (last + 1))) := UpdP.of ((Upd.refl [v] _).setCell (by simp) _) (fun k hk => .inl (by simp at hk; exact .inl hk))
    generalize W2.setCell ⟨v, 19, none⟩ (.int .i64 (last + 1)) = W3 at hM3 hU3 ⊢
    have HM3 := Lib.hid hM3
    have HU3 := Lib.hid (wt_gr (UpdP.ofB HB2.out) hU3)
    have KP := Lib.hid (put_any hM3 ⟨last + 1, t, s, wt, 0⟩ HNO.out HNM.out)
    clear hM3 hU3 c19 c19f
    have c19 := HM3.out.cel.get (i := 19) rfl
    go_wp2_with (first
      | (refine wl_built rfl 32 _ rfl [(0, .int .i64 (last + 1)), (1, .int .i64 t), (2, .string s), (3, .int .i64 wt)] (by simp [Act.eval, Act.put]) _ (built4 _ _ _ _) ?_)
      | (go_at_call 30; refine KP.out.mono ?_; rintro e W4 ⟨rfl, hu4, hm4⟩; have c19b := hm4.cel.get (i := 19) rfl; have HU4 := Lib.hid hu4; have HM4 := Lib.hid hm4; clear hu4 hm4))
    go_ret2
    exact ⟨rfl, wt_gr HU3.out HU4.out, HM4.out⟩
  · have eN := Lib.hid (show openN c last L t s wt = last from by unfold openN; rw [if_neg hc])
    have eL := Lib.hid (show openL c last L t s wt = L from by unfold openL; rw [if_neg hc])
    have eR := Lib.hid (show openR c last L t s wt = 0 from by unfold openR; rw [if_neg hc])
    rw [eN.out, eL.out, eR.out]
    obtain ⟨r, hr⟩ : ∃ r, r = chkI c L t s wt := ⟨_, rfl⟩
    unfold Chkd at KM
    rw [← hr] at KM hc ⊢
    have hcb : (r != 0) = true := by simp [hc]
    have H := Lib.hid h
    clear h hin ho eN eL eR hr hc
    go_enter Try.func10, Try.ntmps10
    go_wp2_with (go_at_call 18; refine KM.out.mono ?_; rintro e W2 ⟨rfl, hb2⟩)
    go_ret2
    exact ⟨rfl, UpdP.ofB hb2, H.out.below hb2⟩
end Go.Proofs.Ytogajmbkjojdhaa
