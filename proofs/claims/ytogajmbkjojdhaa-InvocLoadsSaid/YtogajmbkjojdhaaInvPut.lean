/- Invocations: put. -/
import Derived.Test.YtogajmbkjojdhaaInvCheck
import Derived.Test.YtogajmbkjojdhaaRecM
set_option linter.unusedVariables false
set_option linter.unusedSimpArgs false
set_option maxRecDepth 100000
namespace Go.Proofs.Ytogajmbkjojdhaa
open Go.RowKit

section
variable {κ : Type} [DecidableEq κ] {K : KeyK κ} {ops : Array Oper} {rest : List Oper} {o : Oper} {a : Act} {w : World} {Q : Exit → Act → World → Prop}
theorem wl_updateS (k0 : K.Ok) (hgd : o.guard = none) (m x v : Operand) (t e : TypeId) (ho : o.op = .mapUpdate t m x v)
    (ht : Try.prog.underlying t = some (.map K.ty e)) {b n : Nat} {f : κ → Option Value} (hm : a.eval m = .map (some b)) (h : MapS K w b f n) (k : κ) (hx : a.eval x = K.kv k) (u : Value) (hv : a.eval v = u)
    (hK : ∀ w', Upd [b] w w' → MapS K w' b (fun x => if x = k then some u else f x) (if (f k).isSome then n else n + 1) → wpList Try.prog ops Q rest (a.put o.dst undef) w') : wpList Try.prog ops Q (o :: rest) a w := by
  refine wpList_plain hgd fun K' hK' => ?_
  obtain ⟨w', hr, h1, h2⟩ := h.update k0 ht k u
  unfold Oper.wp
  simp only [execOp, ho, hm, hx, hv, Sem.run_bind, hr, Result.andThen_ok]
  exact hK' _ _ (hK w' h1 h2)
theorem wl_deleteS (k0 : K.Ok) (hgd : o.guard = none) (m x : Operand) (t e kt : TypeId)
    (ho : o.op = .call { callee := .builtin .delete, args := #[m, x], argTypes := #[t, kt] })
    (ht : Try.prog.underlying t = some (.map K.ty e)) {b n : Nat} {f : κ → Option Value} (hm : a.eval m = .map (some b)) (h : MapS K w b f n) (k : κ) (hx : a.eval x = K.kv k)
    (hK : ∀ w', Upd [b] w w' → MapS K w' b (fun x => if x = k then none else f x) (if (f k).isSome then n - 1 else n) → wpList Try.prog ops Q rest (a.put o.dst (.tuple #[])) w') : wpList Try.prog ops Q (o :: rest) a w := by
  refine wpList_plain hgd fun K' hK' => ?_
  obtain ⟨w', hr, h1, h2⟩ := h.delete (tys := #[t, kt]) (ty := o.type) k0 rfl ht k
  unfold Oper.wp execOp
  simp only [ho, resolve, invoke, builtin, Sem.run_bind, Sem.run_pure, Result.andThen_ok, List.map_toArray, List.map_cons, List.map_nil, hm, hx, hr]
  exact hK' _ _ (hK w' h1 h2)
end
theorem wt_gr {T : Nat → Prop} {w w1 w2 : World} (h : UpdP T w w1) (h2 : UpdP T w1 w2) : UpdP T w w2 := h.trans ⟨h2.os, h2.tape, h2.output, h2.size, fun k hk hn => h2.block k hk (fun h9 => hn (.inl h9))⟩
theorem fNo_snoc {L : List Iv} {x : Iv} (h : fNo L x.no = none) (k : Int) : fNo (L ++ [x]) k = if k = x.no then some x else fNo L k := by
  unfold fNo at *
  rw [List.find?_append]
  by_cases hk : k = x.no
  · subst hk
    rw [h, if_pos rfl]
    simp [isNo]
  · rw [if_neg hk]
    have : List.find? (isNo k) [x] = none := by simp [isNo, Ne.symm hk]
    rw [this]
    cases List.find? (isNo k) L <;> rfl
theorem fNm_snoc {L : List Iv} {x : Iv} (h : fNm L x.tn x.nm = none) (t : Int) (s : ByteArray) : fNm (L ++ [x]) t s = if (t, s) = (x.tn, x.nm) then some x else fNm L t s := by
  unfold fNm at *
  rw [List.find?_append]
  by_cases hk : (t, s) = (x.tn, x.nm)
  · rw [if_pos hk]
    simp only [Prod.mk.injEq] at hk
    obtain ⟨rfl, rfl⟩ := hk
    rw [h]
    simp [isNm]
  · rw [if_neg hk]
    have : List.find? (isNm t s) [x] = none := by
      simp only [List.find?_eq_none, List.mem_singleton, isNm, decide_eq_true_eq]
      rintro y rfl ⟨e1, e2⟩
      exact hk (by rw [e1, e2])
    rw [this]
    cases List.find? (isNm t s) L <;> rfl
theorem iv_parts {w : World} {b : Nat} {x : Iv} (h : w.rangeAt b 0 (ivR.cells x)) : w.cell? ⟨b, 0, none⟩ = some (.int .i64 x.no) ∧ w.cell? ⟨b, 1, none⟩ = some (.int .i64 x.tn) ∧ w.cell? ⟨b, 2, none⟩ = some (.string x.nm) ∧ w.cell? ⟨b, 3, none⟩ = some (.int .i64 x.wt) ∧ w.cell? ⟨b, 4, none⟩ = some (.int .i64 x.ld) :=
  ⟨by simpa [ivR] using h 0 _ rfl, by simpa [ivR] using h 1 _ rfl, by simpa [ivR] using h 2 _ rfl, by simpa [ivR] using h 3 _ rfl, by simpa [ivR] using h 4 _ rfl⟩
/-- The blocks of invocations. -/
def InvB (v nm lm : Nat) (k : Nat) : Prop := k = v ∨ k = nm ∨ k = lm
def PutI (w : World) (v nm lm : Nat) (c : Cfg) (last : Int) (L : List Iv) (e : Ending) (w' : World) : Prop := e = .returned (.tuple #[]) ∧ UpdP (InvB v nm lm) w w' ∧ InvM w' v nm lm c last L
set_option maxHeartbeats 8000000 in
theorem put_any {w : World} {v nm lm : Nat} {c : Cfg} {last : Int} {L : List Iv} (h : InvM w v nm lm c last L) (x : Iv) (hno : fNo L x.no = none) (hnm : fNm L x.tn x.nm = none) :
    Calls Try.prog 30 #[.pointer (some ⟨v, 0, none⟩), ivR.val x] w (PutI w v nm lm c last (L ++ [x])) := by
  have hb1 : Below w.heap.size w (w.alloc (.cells (ivR.cells x).toArray 32)) := (Below.refl _ _).alloc (Nat.le_refl _) _
  have hr1 := row_reads (R := ivR) x (heap_alloc_new w (.cells (ivR.cells x).toArray 32))
  obtain ⟨W1, hW1⟩ : ∃ W1, W1 = w.alloc (.cells (ivR.cells x).toArray 32) := ⟨_, rfl⟩
  rw [← hW1] at hb1 hr1
  obtain ⟨q, hq⟩ : ∃ q, q = w.heap.size := ⟨_, rfl⟩
  have hlts := h.lts
  have hqn : q ≠ lm ∧ q ≠ nm := by omega
  rw [← hq] at hr1
  have HM := Lib.hid (h.below hb1)
  have HB1 := Lib.hid hb1
  have HR1 := Lib.hid hr1
  have HNO := Lib.hid hno
  have HNM := Lib.hid hnm
  have H := Lib.hid h
  clear hb1 h hlts hno hnm
  go_enter Try.func30, Try.ntmps30
  go_upto_region 1 with fail
  show Code.wp _ _ _ _ (w.alloc (.cells (ivR.cells x).toArray 32))
  rw [← hW1, ← hq]
  clear hW1 hq
  have c21 := HM.out.cel.get (i := 21) rfl
  obtain ⟨r0, -⟩ := iv_parts hr1
  have d0 := fun (z : Later W1) => z.cell c21
  have d1 := fun (z : Later W1) => z.cell r0
  have RC := Lib.hid (fun (w' : World) (hx : ∃ z : Later W1, w' = z.w) => (show w'.rangeAt q 0 (ivR.cells x) from by obtain ⟨z, rfl⟩ := hx; exact below_range z.h hr1))
  clear c21 r0 hr1
  refine wp_region_later_tail 7 (by kernel_rfl) (by kernel_rfl) (Below.refl _ _) ?_
  simp only [List.take_succ_cons, List.take_zero, List.drop_succ_cons, List.drop_zero]
  repeat (first
    | go_big_quiet_skip
    | (go_big_quiet_want; first
      | (refine quiet_load_mid 32 _ rfl q 0 rfl (ivR.cells x) _ RC.out Try.underlying32 rfl (ivOk.row x) ?_; simp only [Act.put, List.setIfInBounds_toArray, List.set_cons_succ, List.set_cons_zero]; go_big_quiet_on)
      | (go_big_quiet_op; go_big_quiet_on)))
  refine wpQuiet_nil ?_
  rintro ⟨W2, hb2⟩
  dsimp only
  clear d0 d1 RC
  have HML2 := Lib.hid (HM.out.below hb2).ml
  have HM2 := Lib.hid (HM.out.below hb2)
  have HR2 := Lib.hid (below_range hb2 HR1.out)
  have HB2 := Lib.hid (bthen' HB1.out hb2)
  clear hb2
  go_upto_region 2 with (refine wl_updateS (intK_ok Try.underlying3) rfl _ _ _ 62 32 rfl Try.underlying62 rfl HML2.out x.no rfl (ivR.val x) rfl ?_; intro W3 hu3 hm3)
  have hnf : (noF L x.no).isSome = false := by unfold noF; rw [HNO.out]; rfl
  rw [hnf] at hm3
  have HML3 := Lib.hid (show MapS (intK 3) W3 lm (noF (L ++ [x])) (L ++ [x]).length from by
    rw [List.length_append]
    exact hm3.congr fun k => by
      unfold noF
      rw [fNo_snoc HNO.out]
      by_cases hk : k = x.no
      · rw [if_pos hk, if_pos hk]; rfl
      · rw [if_neg hk, if_neg hk])
  have HMN3 := Lib.hid (HM2.out.mn.upd hu3 (by simpa using HM2.out.ne3))
  have HC3 := Lib.hid (HM2.out.cel.upd hu3 (by simpa using HM2.out.ne2))
  have HR3 := Lib.hid (hu3.range (by simpa using hqn.1) HR2.out)
  have HU3 := Lib.hid hu3
  clear hu3 hm3 hnf HML2
  have c20 := HC3.out.get (i := 20) rfl
  obtain ⟨r0, r1, r2, -⟩ := iv_parts HR3.out
  have d0 := fun (z : Later W3) => z.cell c20
  have d1 := fun (z : Later W3) => z.cell r0
  have d2 := fun (z : Later W3) => z.cell r1
  have d3 := fun (z : Later W3) => z.cell r2
  clear c20 r0 r1 r2
  (try simp only [Act.put])
  refine wp_region_later_tail 11 (by kernel_rfl) (by kernel_rfl) (Below.refl _ _) ?_
  simp only [List.take_succ_cons, List.take_zero, List.drop_succ_cons, List.drop_zero]
  repeat (first
    | go_big_quiet_skip
    | (go_big_quiet_want; (go_big_quiet_op; go_big_quiet_on)))
  refine wpQuiet_nil ?_
  rintro ⟨W4, hb4⟩
  dsimp only
  clear d0 d1 d2 d3
  have HMN4 := Lib.hid (HMN3.out.below hb4)
  have HML4 := Lib.hid (HML3.out.below hb4)
  have HC4 := Lib.hid (HC3.out.below hb4)
  have HB4 := Lib.hid hb4
  clear hb4
  go_wp2_with (refine wl_updateS nkOk rfl _ _ _ 61 3 rfl Try.underlying61 rfl HMN4.out (x.tn, x.nm) rfl (.int .i64 x.no) rfl ?_; intro W5 hu5 hm5)
  go_end0
  have hnf : (nmF L (x.tn, x.nm)).isSome = false := by unfold nmF; rw [HNM.out]; rfl
  rw [hnf] at hm5
  have e1 : UpdP (InvB v nm lm) w W3 := wt_gr (UpdP.ofB HB2.out) (UpdP.of HU3.out (fun k hk => .inl (by simp at hk; exact .inr (.inr hk))))
  have e2 : UpdP (InvB v nm lm) w W5 := wt_gr (wt_gr e1 (UpdP.ofB HB4.out)) (UpdP.of hu5 (fun k hk => .inl (by simp at hk; exact .inr (.inl hk))))
  refine ⟨rfl, e2, HC4.out.upd hu5 (by simpa using H.out.ne1), H.out.ne1, H.out.ne2, H.out.ne3, ?_, HML4.out.upd hu5 (by simpa using Ne.symm H.out.ne3)⟩
  rw [List.length_append]
  exact hm5.congr fun k => by
    unfold nmF
    rw [fNm_snoc HNM.out]
    by_cases hk : k = (x.tn, x.nm)
    · rw [if_pos hk, if_pos hk]; rfl
    · rw [if_neg hk, if_neg hk]
end Go.Proofs.Ytogajmbkjojdhaa
