/- Invocations: a tenant's load; what is wrong with one that is to be opened (printed by geninvcheck.py). -/
import Derived.Test.YtogajmbkjojdhaaInvGet
set_option linter.unusedVariables false
set_option linter.unusedSimpArgs false
set_option maxRecDepth 100000
namespace Go.Proofs.Ytogajmbkjojdhaa
open Go.RowKit

theorem sumL_append (A B : List Iv) : sumL (A ++ B) = sumL A + sumL B := by unfold sumL; rw [List.map_append, List.sum_append]
theorem sumL_bound (c : Int) (hc : 0 ≤ c) : ∀ (A : List Iv), (∀ x ∈ A, 0 ≤ x.ld ∧ x.ld ≤ c) → 0 ≤ sumL A ∧ sumL A ≤ A.length * c
  | [], _ => by simp [sumL]
  | a :: A, h => by
    have h1 := h a List.mem_cons_self
    have h2 := sumL_bound c hc A (fun x hx => h x (List.mem_cons_of_mem _ hx))
    have e : sumL (a :: A) = a.ld + sumL A := rfl
    rw [e, List.length_cons]
    have : ((A.length + 1 : Nat) : Int) * c = A.length * c + c := by rw [Int.natCast_add, Int.add_mul]; simp
    omega
def LdI (L : List Iv) (t : Int) (k : Nat) : Int := sumL ((L.take k).filter (isTn t))
theorem LdI.bound {c : Cfg} {last : Int} {L : List Iv} (ho : InvOk c last L) (hL : L.length ≤ 100000) (t : Int) (k : Nat) : 0 ≤ LdI L t k ∧ LdI L t k ≤ 3200000 := by
  have h := sumL_bound 32 (by omega) ((L.take k).filter (isTn t)) (fun x hx => by
    have h1 := ho.loads x (List.mem_of_mem_take (List.mem_filter.1 hx).1)
    have h2 := ho.cap
    omega)
  have h3 : ((L.take k).filter (isTn t)).length ≤ 100000 := by
    have := List.length_filter_le (isTn t) (L.take k)
    rw [List.length_take] at this
    omega
  unfold LdI
  omega
theorem LdI.step {L : List Iv} {t : Int} {k : Nat} {x : Iv} (hx : L[k]? = some x) : LdI L t (k + 1) = LdI L t k + (if isTn t x = true then x.ld else 0) := by
  unfold LdI
  rw [← take_snoc hx, List.filter_append, sumL_append]
  congr 1
  by_cases h : isTn t x = true
  · rw [List.filter_cons, if_pos h, if_pos h]; simp [sumL]
  · rw [List.filter_cons, if_neg h, if_neg h]; simp [sumL]
theorem load_nil (w : World) (t : Int) : Calls Try.prog 15 #[.pointer none, .int .i64 t] w fun e w' => e = .returned (.int .i64 0) ∧ Below w.heap.size w w' := by
  go_enter Try.func15, Try.ntmps15
  go_wp2_with (go_at_call 9; refine (all_nil _).mono ?_; rintro e w' ⟨rfl, rfl⟩)
  refine wp_loop_rounds 1 ?_
  rw [rounds_succ]
  go_wp2_with fail
  go_ret
  exact ⟨rfl, Below.refl _ _⟩
theorem iv_ld {w : World} {b : Nat} {x : Iv} (h : w.rangeAt b 0 (ivR.cells x)) : w.cell? ⟨b, 4, none⟩ = some (.int .i64 x.ld) := by simpa [ivR] using h 4 _ rfl
set_option maxHeartbeats 4000000 in
theorem load_any {w : World} {v nm lm : Nat} {c : Cfg} {last last' : Int} {L : List Iv} (h : InvM w v nm lm c last L) (ho : InvOk c last' L) (t : Int) (hL : L.length ≤ 100000) :
    Calls Try.prog 15 #[.pointer (some ⟨v, 0, none⟩), .int .i64 t] w fun e w' => e = .returned (.int .i64 (loadT L t)) ∧ Below w.heap.size w w' := by
  have KA := Lib.hid (all_any h ho hL)
  have HBD := Lib.hid (fun k => LdI.bound ho hL t k)
  clear h ho
  go_enter Try.func15, Try.ntmps15
  go_wp2_with (go_at_call 9; refine KA.out.mono ?_; rintro e W1 ⟨va, rfl, hb1, hO1⟩; obtain ⟨aa, ca, rfl⟩ := hO1.form; have HO1 := Lib.hid (hO1.lts ivOk); clear hO1)
  go_loopw [5, 7, 11] (fun s _ i wr => ∃ k : Nat, k ≤ L.length ∧ i = .int .i64 k ∧ s = .int .i64 (LdI L t k) ∧ Below W1.heap.size W1 wr) (fun _ _ i _ => L.length - lenI i)
  case atStart => exact ⟨0, by omega, rfl, rfl, Below.refl _ _⟩
  case round =>
    obtain ⟨k, hk, rfl, rfl, hW⟩ := hrel
    by_cases hlt : k < L.length
    · obtain ⟨x, hx⟩ : ∃ x, L[k]? = some x := ⟨_, List.getElem?_eq_getElem hlt⟩
      obtain ⟨b, off, rfl, hr⟩ := (HO1.out.below hW).at hx
      have HR := Lib.hid hr
      have HST := Lib.hid (LdI.step (t := t) hx)
      have hbd := HBD.out k
      have hbd2 := HBD.out (k + 1)
      have HW := Lib.hid hW
      clear hx hr
      go_upto_if 18 with (first
        | (refine wpList_load_mid rfl 32 _ rfl b (off + k * ivR.n) rfl (ivR.cells x) _ HR.out Try.underlying32 rfl (ivOk.row x) ?_)
        | (refine wpList_store_mid rfl 32 _ _ rfl wr.heap.size 0 (ivR.cells x).toArray rfl rfl (freshR_there ivOk wr x) (ivOk.row' x) (ivOk.one' x) ?_; show wpList _ _ _ _ _ (freshR ivR wr x); have hx3 := freshR_range ivOk wr x; have hb3 := freshR_below (R := ivR) wr x; generalize freshR ivR wr x = W3 at hx3 hb3 ⊢; have q1 := iv_tn hx3; have q4 := iv_ld hx3))
      have HW3 := Lib.hid (bthen' HW.out hb3)
      clear hb3 hx3 hW
      by_cases htn : x.tn = t
      · have hb : (x.tn == t) = true := by simp [htn]
        have HST2 := Lib.hid (show LdI L t (k + 1) = LdI L t k + x.ld from by rw [HST.out, if_pos (by simp [isTn, htn])])
        clear htn
        go_wp2_with fail
        go_roundw
        case rel => exact ⟨k + 1, by omega, by go_num, by rw [HST2.out] at hbd2 ⊢; first | rfl | (congr 1; unfold wrap64; omega), HW3.out⟩
        case measure => simp [lenI]; omega
      · have hb : (x.tn == t) = false := by simp [htn]
        have HST2 := Lib.hid (show LdI L t (k + 1) = LdI L t k from by rw [HST.out, if_neg (by simp [isTn, htn])]; simp)
        clear htn
        go_wp2_with fail
        go_roundw
        case rel => exact ⟨k + 1, by omega, by go_num, by rw [HST2.out], HW3.out⟩
        case measure => simp [lenI]; omega
    · obtain rfl : k = L.length := by omega
      have HF := Lib.hid (show LdI L t L.length = loadT L t from by unfold LdI loadT; rw [List.take_length])
      go_wp2_with fail
      go_ret
      exact ⟨by rw [← HF.out]; rfl, bthen' hb1 hW⟩
theorem chk_cases (c : Cfg) (L : List Iv) (t : Int) (s : ByteArray) (wt : Int) : chkI c L t s wt = if t < 0 then 6 else if (c.T.length : Int) ≤ t then 6 else if nameB s.data.toList = false then 5 else if wt < 1 then 1 else if c.weight < wt then 1 else if (fNm L t s).isSome = true then 8 else if c.invs ≤ (cntT L t : Int) then 9 else 0 := by
  unfold chkI
  by_cases h1 : t < 0
  · simp [h1]
  · by_cases h2 : (c.T.length : Int) ≤ t
    · simp [h2]
    · by_cases h3 : wt < 1
      · simp [h1, h2, h3]
      · by_cases h4 : c.weight < wt <;> simp [h1, h2, h3, h4]
def Chkd (w : World) (r : Int) (e : Ending) (w' : World) : Prop := e = .returned (.int .i64 r) ∧ Below w.heap.size w w'
set_option maxHeartbeats 8000000 in
theorem check31_any {w : World} {v nm lm : Nat} {c : Cfg} {last : Int} {L : List Iv} (h : InvM w v nm lm c last L) (hin : c.In w) (ho : InvOk c last L) (t : Int) (s : ByteArray) (wt : Int) (hs : s.size ≤ 9223372036854775807) (hL : L.length ≤ 100000) :
    Calls Try.prog 32 #[.pointer (some ⟨v, 0, none⟩), .int .i64 t, .string s, .int .i64 wt] w (Chkd w (chkI c L t s wt)) := by
  have c0 := h.cel.get (i := 0) rfl
  have c5 := h.cel.get (i := 5) rfl
  have c6 := h.cel.get (i := 6) rfl
  have c20 := h.cel.get (i := 20) rfl
  obtain ⟨at', capt, hvt⟩ := hin.t.form
  rw [hvt] at c0
  have HMN := Lib.hid h.mn.toF
  have KN := Lib.hid (fun w => name_any w s hs)
  have KC := Lib.hid (fun (W : World) (hb : Below w.heap.size w W) => count_any (h.below hb) ho t hL)
  have hpos : ∀ x ∈ L, 0 < x.no := ho.low
  rw [chk_cases]
  clear h hin ho hvt hs
  by_cases h1 : t < 0
  · rw [if_pos h1]
    have q1 : decide (t < 0) = true := by simp; omega
    clear h1
    go_enter Try.func32, Try.ntmps32
    go_wp2_with (first
      | (go_at_call 56; refine (KN.out _).mono ?_; rintro e W2 ⟨rfl, hb2⟩; have e5 := below_cell hb2 c5; have e6 := below_cell hb2 c6; have e20 := below_cell hb2 c20; have HMN2 := Lib.hid (HMN.out.below hb2))
      | (refine wl_lookup nkOk rfl _ _ 61 3 rfl Try.underlying61 (z := .int .i64 0) zeroInt rfl HMN2.out (t, s) rfl ?_; rw [HG.out]))
    go_ret
    exact ⟨rfl, Below.refl _ _⟩
  rw [if_neg h1]
  have q1 : decide (t < 0) = false := by simp; omega
  by_cases h2 : (c.T.length : Int) ≤ t
  · rw [if_pos h2]
    have q2 : decide ((c.T.length : Int) ≤ t) = true := by simp; omega
    have q2' : decide (t ≥ (c.T.length : Int)) = true := by simp; omega
    clear h1 h2
    go_enter Try.func32, Try.ntmps32
    go_wp2_with (first
      | (go_at_call 56; refine (KN.out _).mono ?_; rintro e W2 ⟨rfl, hb2⟩; have e5 := below_cell hb2 c5; have e6 := below_cell hb2 c6; have e20 := below_cell hb2 c20; have HMN2 := Lib.hid (HMN.out.below hb2))
      | (refine wl_lookup nkOk rfl _ _ 61 3 rfl Try.underlying61 (z := .int .i64 0) zeroInt rfl HMN2.out (t, s) rfl ?_; rw [HG.out]))
    go_ret
    exact ⟨rfl, Below.refl _ _⟩
  rw [if_neg h2]
  have q2 : decide ((c.T.length : Int) ≤ t) = false := by simp; omega
  have q2' : decide (t ≥ (c.T.length : Int)) = false := by simp; omega
  clear h1 h2
  cases h3 : nameB s.data.toList with
  | false =>
    rw [if_pos (show false = false from rfl)]
    rw [h3] at KN
    clear h3
    go_enter Try.func32, Try.ntmps32
    go_wp2_with (first
      | (go_at_call 56; refine (KN.out _).mono ?_; rintro e W2 ⟨rfl, hb2⟩; have e5 := below_cell hb2 c5; have e6 := below_cell hb2 c6; have e20 := below_cell hb2 c20; have HMN2 := Lib.hid (HMN.out.below hb2))
      | (refine wl_lookup nkOk rfl _ _ 61 3 rfl Try.underlying61 (z := .int .i64 0) zeroInt rfl HMN2.out (t, s) rfl ?_; rw [HG.out]))
    go_ret
    exact ⟨rfl, hb2⟩
  | true =>
    rw [if_neg (by simp)]
    rw [h3] at KN
    clear h3
    by_cases h4 : wt < 1
    · rw [if_pos h4]
      have q4 : decide (wt < 1) = true := by simp; omega
      clear h4
      go_enter Try.func32, Try.ntmps32
      go_wp2_with (first
        | (go_at_call 56; refine (KN.out _).mono ?_; rintro e W2 ⟨rfl, hb2⟩; have e5 := below_cell hb2 c5; have e6 := below_cell hb2 c6; have e20 := below_cell hb2 c20; have HMN2 := Lib.hid (HMN.out.below hb2))
        | (refine wl_lookup nkOk rfl _ _ 61 3 rfl Try.underlying61 (z := .int .i64 0) zeroInt rfl HMN2.out (t, s) rfl ?_; rw [HG.out]))
      go_ret
      exact ⟨rfl, hb2⟩
    rw [if_neg h4]
    have q4 : decide (wt < 1) = false := by simp; omega
    by_cases h5 : c.weight < wt
    · rw [if_pos h5]
      have q5 : decide (c.weight < wt) = true := by simp; omega
      have q5' : decide (wt > c.weight) = true := by simp; omega
      clear h4 h5
      go_enter Try.func32, Try.ntmps32
      go_wp2_with (first
        | (go_at_call 56; refine (KN.out _).mono ?_; rintro e W2 ⟨rfl, hb2⟩; have e5 := below_cell hb2 c5; have e6 := below_cell hb2 c6; have e20 := below_cell hb2 c20; have HMN2 := Lib.hid (HMN.out.below hb2))
        | (refine wl_lookup nkOk rfl _ _ 61 3 rfl Try.underlying61 (z := .int .i64 0) zeroInt rfl HMN2.out (t, s) rfl ?_; rw [HG.out]))
      go_ret
      exact ⟨rfl, hb2⟩
    rw [if_neg h5]
    have q5 : decide (c.weight < wt) = false := by simp; omega
    have q5' : decide (wt > c.weight) = false := by simp; omega
    clear h4 h5
    cases h6 : fNm L t s with
    | some x =>
      rw [if_pos (show (some x).isSome = true from rfl)]
      have hno := hpos x (fNm_mem h6).1
      have HG := Lib.hid (show (nmF L (t, s)).getD (.int .i64 0) = .int .i64 x.no from by unfold nmF; rw [h6]; rfl)
      have q6 : decide (x.no > 0) = true := by simp; omega
      have q6' : decide (0 < x.no) = true := by simp; omega
      clear h6 hno
      go_enter Try.func32, Try.ntmps32
      go_wp2_with (first
        | (go_at_call 56; refine (KN.out _).mono ?_; rintro e W2 ⟨rfl, hb2⟩; have e5 := below_cell hb2 c5; have e6 := below_cell hb2 c6; have e20 := below_cell hb2 c20; have HMN2 := Lib.hid (HMN.out.below hb2))
        | (refine wl_lookup nkOk rfl _ _ 61 3 rfl Try.underlying61 (z := .int .i64 0) zeroInt rfl HMN2.out (t, s) rfl ?_; rw [HG.out]))
      go_ret
      exact ⟨rfl, hb2⟩
    | none =>
      rw [if_neg (by simp)]
      have HG := Lib.hid (show (nmF L (t, s)).getD (.int .i64 0) = .int .i64 0 from by unfold nmF; rw [h6]; rfl)
      clear h6 hpos
      by_cases h7 : c.invs ≤ (cntT L t : Int)
      · rw [if_pos h7]
        have q7 : decide (c.invs ≤ (cntT L t : Int)) = true := by simp; omega
        have q7' : decide ((cntT L t : Int) ≥ c.invs) = true := by simp; omega
        clear h7
        go_enter Try.func32, Try.ntmps32
        go_upto_region 9 with (first
          | (go_at_call 56; refine (KN.out _).mono ?_; rintro e W2 ⟨rfl, hb2⟩; have e5 := below_cell hb2 c5; have e6 := below_cell hb2 c6; have e20 := below_cell hb2 c20; have HMN2 := Lib.hid (HMN.out.below hb2))
          | (refine wl_lookup nkOk rfl _ _ 61 3 rfl Try.underlying61 (z := .int .i64 0) zeroInt rfl HMN2.out (t, s) rfl ?_; rw [HG.out]))
        have d5 := fun (z : Later W2) => z.cell e5
        have KC2 := Lib.hid (fun (W : World) (hb : Below W2.heap.size W2 W) => KC.out W (bthen' hb2 hb))
        refine wp_region_later (by kernel_rfl) (by kernel_rfl) (Below.refl _ _) ?_
        repeat (first
          | go_big_quiet_skip
          | (go_big_quiet_want; (go_big_quiet_op; first | go_big_quiet_on | go_big_quiet_call ((go_at_call 57; exact Calls.later (KC2.out _ (Later.h _)))))))
        refine wpQuiet_nil ?_
        rintro ⟨W3, hb3⟩
        dsimp only
        clear d5
        go_wp2_with fail
        go_ret
        exact ⟨rfl, bthen' hb2 hb3⟩
      · rw [if_neg h7]
        have q7 : decide (c.invs ≤ (cntT L t : Int)) = false := by simp; omega
        have q7' : decide ((cntT L t : Int) ≥ c.invs) = false := by simp; omega
        clear h7
        go_enter Try.func32, Try.ntmps32
        go_upto_region 9 with (first
          | (go_at_call 56; refine (KN.out _).mono ?_; rintro e W2 ⟨rfl, hb2⟩; have e5 := below_cell hb2 c5; have e6 := below_cell hb2 c6; have e20 := below_cell hb2 c20; have HMN2 := Lib.hid (HMN.out.below hb2))
          | (refine wl_lookup nkOk rfl _ _ 61 3 rfl Try.underlying61 (z := .int .i64 0) zeroInt rfl HMN2.out (t, s) rfl ?_; rw [HG.out]))
        have d5 := fun (z : Later W2) => z.cell e5
        have KC2 := Lib.hid (fun (W : World) (hb : Below W2.heap.size W2 W) => KC.out W (bthen' hb2 hb))
        refine wp_region_later (by kernel_rfl) (by kernel_rfl) (Below.refl _ _) ?_
        repeat (first
          | go_big_quiet_skip
          | (go_big_quiet_want; (go_big_quiet_op; first | go_big_quiet_on | go_big_quiet_call ((go_at_call 57; exact Calls.later (KC2.out _ (Later.h _)))))))
        refine wpQuiet_nil ?_
        rintro ⟨W3, hb3⟩
        dsimp only
        clear d5
        go_wp2_with fail
        go_ret
        exact ⟨rfl, bthen' hb2 hb3⟩
theorem may_nil (w : World) (t : Int) (s : ByteArray) (wt : Int) : Calls Try.prog 18 #[.pointer none, .int .i64 t, .string s, .int .i64 wt] w (Chkd w 19) := by
  go_enter Try.func18, Try.ntmps18
  go_wp2_with fail
  go_ret
  exact ⟨rfl, Below.refl _ _⟩
theorem may_any {w : World} {v nm lm : Nat} {c : Cfg} {last : Int} {L : List Iv} (h : InvM w v nm lm c last L) (hin : c.In w) (ho : InvOk c last L) (t : Int) (s : ByteArray) (wt : Int) (hs : s.size ≤ 9223372036854775807) (hL : L.length ≤ 100000) :
    Calls Try.prog 18 #[.pointer (some ⟨v, 0, none⟩), .int .i64 t, .string s, .int .i64 wt] w (Chkd w (chkI c L t s wt)) := by
  have K := Lib.hid (check31_any h hin ho t s wt hs hL)
  obtain ⟨r, hr⟩ : ∃ r, r = chkI c L t s wt := ⟨_, rfl⟩
  rw [← hr] at K ⊢
  clear h hin ho hr hs
  go_enter Try.func18, Try.ntmps18
  go_wp2_with (go_at_call 32; refine K.out.mono ?_; rintro e W2 ⟨rfl, hb2⟩)
  go_ret
  exact ⟨rfl, hb2⟩
end Go.Proofs.Ytogajmbkjojdhaa
