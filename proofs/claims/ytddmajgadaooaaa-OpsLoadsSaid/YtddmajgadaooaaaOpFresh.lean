/- The table of operations that are loaded (printed by genopload.py). -/
import Derived.Test.YtddmajgadaooaaaOpRight
set_option linter.unusedVariables false
set_option linter.unusedSimpArgs false
namespace Go.Proofs.Ytddmajgadaooaaa
open Go.RowKit

theorem om_snoc {X : List OpV} {x : OpV} (h : got X x.id = none) : (fun i => if i = x.id then some (opR.val x) else (got X i).map opR.val) = fun i => (got (X ++ [x]) i).map opR.val := by
  funext i
  rw [got_app]
  by_cases hi : i = x.id
  · rw [if_pos hi, hi, h]
    have : got [x] x.id = some x := by unfold got; simp
    rw [this]; rfl
  · rw [if_neg hi]
    have : got [x] i = none := got_none.2 (fun y hy => by simp at hy; subst hy; exact fun e => hi e.symm)
    rw [this]
    cases got X i <;> rfl
theorem MayBe.inv {keep next : Int} {L D : List OpV} (h : MayBe keep next L D) : Inv keep next L D := by
  obtain ⟨h1, h2, h3, h4⟩ := h
  have hn : ∀ k, k ≤ (L ++ D).length → (ids ((L ++ D).take k)).Nodup := by
    intro k
    induction k with
    | zero => intro _; simp [ids]
    | succ k ih =>
      intro hk
      obtain ⟨x, hx⟩ : ∃ x, (L ++ D)[k]? = some x := ⟨_, List.getElem?_eq_getElem (by omega)⟩
      have hs := h4 k x hx
      rw [← take_snoc hx, ids_app, List.nodup_append]
      refine ⟨ih (by omega), by simp [ids], fun a ha b hb => ?_⟩
      obtain ⟨y, hy, rfl⟩ := List.mem_map.1 ha
      simp [ids] at hb
      subst hb
      exact got_none.1 hs.new y hy
  have hr : ∀ d i x y, L[i]? = some x → L[i + d + 1]? = some y → x.id < y.id := by
    intro d
    induction d with
    | zero =>
      intro i x y hx hy
      have hl : i + 0 + 1 < L.length := (List.getElem?_eq_some_iff.1 hy).1
      exact (h4 (i + 0 + 1) y (by rw [List.getElem?_append_left hl]; exact hy)).rise x (by omega) hl (by simpa using hx)
    | succ d ih =>
      intro i x y hx hy
      have hl : i + (d + 1) + 1 < L.length := (List.getElem?_eq_some_iff.1 hy).1
      obtain ⟨z, hz⟩ : ∃ z, L[i + d + 1]? = some z := ⟨_, List.getElem?_eq_getElem (by omega)⟩
      have a1 := ih i x z hx hz
      have a2 := (h4 (i + (d + 1) + 1) y (by rw [List.getElem?_append_left hl]; exact hy)).rise z (by omega) hl (by rw [show i + (d + 1) + 1 - 1 = i + d + 1 from by omega]; exact hz)
      omega
  refine ⟨?_, ?_, ?_, ?_, ?_, h3⟩
  · rw [List.pairwise_iff_getElem]
    intro i j hi hj hij
    exact hr (j - i - 1) i _ _ (List.getElem?_eq_getElem hi) (by rw [show i + (j - i - 1) + 1 = j from by omega]; exact List.getElem?_eq_getElem hj)
  · have := hn (L ++ D).length (Nat.le_refl _)
    rwa [List.take_length] at this
  · intro x hx
    obtain ⟨i, hi⟩ := List.mem_iff_getElem?.1 hx
    have := h4 i x hi
    exact ⟨this.lo, this.hi⟩
  · intro x hx
    obtain ⟨i, hi⟩ := List.mem_iff_getElem?.1 hx
    have hl := (List.getElem?_eq_some_iff.1 hi).1
    have := (h4 i x (by rw [List.getElem?_append_left hl]; exact hi)).st
    rw [this, decide_eq_false (by omega)]
  · intro x hx
    obtain ⟨i, hi⟩ := List.mem_iff_getElem?.1 hx
    have := (h4 (L.length + i) x (by rw [List.getElem?_append_right (by omega)]; rw [show L.length + i - L.length = i from by omega]; exact hi)).st
    rw [this, decide_eq_true (by omega)]

theorem quiet_lookupOk {κ : Type} [DecidableEq κ] {K : KeyK κ} (k0 : K.Ok) {C : World → Prop} {Kp : Act → Prop} {a : Act} {o : Oper} (m x : Operand) (t e : TypeId) (ho : o.op = .lookup t m x true)
    (ht : Try.prog.underlying t = some (.map K.ty e)) {z : Value} (hz : ∀ w, (zeroValue e).run Try.prog w = .ok z w) {b n : Nat} {f : κ → Option Value} (hm : a.eval m = .map (some b)) (h : ∀ w, C w → MapF K w b f n) (k : κ) (hx : a.eval x = K.kv k)
    (hK : Kp (a.put o.dst (.tuple #[(f k).getD z, .bool (f k).isSome]))) : o.quiet Try.prog a C Kp :=
  ⟨.tuple #[(f k).getD z, .bool (f k).isSome], fun w hw => by
    unfold Oper.quietAt execOp
    simp only [ho, hm, hx, Sem.run_bind, (h w hw).lookupOk k0 ht (hz w) k, Result.andThen_ok]
    trivial, hK⟩
def freshB (next : Int) (X : List OpV) (o : OpV) : Bool := (got X o.id).isNone && (decide (1 ≤ o.id) && decide (o.id < next))
def FreshP (next : Int) (X : List OpV) (o : OpV) (w : World) (e : Ending) (w' : World) : Prop := e = .returned (.bool (freshB next X o)) ∧ Below w.heap.size w w'

set_option maxRecDepth 100000 in
set_option maxHeartbeats 4000000 in
theorem fresh_any (w : World) (q qn t m fm n : Nat) (a0 a1 a2 a3 : Value) (next : Int) (X : List OpV) (o : OpV) (hq : w.cell? ⟨q, 0, none⟩ = some (.pointer (some ⟨t, 0, none⟩))) (hn : w.cell? ⟨qn, 0, none⟩ = some (.int .i64 next))
    (ht : Cel w t [a0, a1, a2, a3, .map (some m), .map (some fm)]) (hm : MapF (intK 3) w m (fun i => (got X i).map opR.val) n) :
    Calls Try.prog 34 #[.agg o.cells.toArray, .pointer (some ⟨q, 0, none⟩), .pointer (some ⟨qn, 0, none⟩)] w (FreshP next X o w) := by
  have hb1 : Below w.heap.size w (w.alloc (.cells o.cells.toArray 30)) := (Below.refl _ _).alloc (Nat.le_refl _) _
  have hn1 : (w.alloc (.cells o.cells.toArray 30)).heap[w.heap.size]? = some (.cells o.cells.toArray 30 (0, 0)) := heap_alloc_new _ _
  obtain ⟨W1, hW1⟩ : ∃ W1, W1 = w.alloc (.cells o.cells.toArray 30) := ⟨_, rfl⟩
  rw [← hW1] at hb1 hn1
  have HN1 := Lib.hid hn1
  have HB1 := Lib.hid hb1
  have q1 := below_cell hb1 hq
  have c4 := (ht.below hb1).get (i := 4) rfl
  have k0 : W1.cell? ⟨w.heap.size, 0, none⟩ = some (.int .i64 o.id) := by simpa using (op_range hn1) 0 _ rfl
  have HM := Lib.hid (fun W (hb : Below W1.heap.size W1 W) => hm.below (bthen' hb1 hb))
  have HQN := Lib.hid (below_cell hb1 hn)
  obtain ⟨xo, hxo⟩ : ∃ xo, xo = got X o.id := ⟨_, rfl⟩
  have HXO := Lib.hid hxo
  obtain ⟨x, hxe⟩ : ∃ x, x = xo.getD zeroOp := ⟨_, rfl⟩
  have HV := Lib.hid (show ((fun i => (got X i).map opR.val) o.id).getD (opR.val zeroOp) = opR.val x ∧ ((fun i => (got X i).map opR.val) o.id).isSome = xo.isSome from by dsimp only; rw [hxe, hxo]; cases got X o.id <;> exact ⟨rfl, rfl⟩)
  clear hq hn ht hm hxo hxe hn1
  go_enter Try.func34, Try.ntmps34
  go_upto_region 1 with fail
  show Code.wp _ _ _ _ (w.alloc (.cells o.cells.toArray 30))
  rw [← hW1]
  clear hW1 hb1
  have hneS : Nonempty (Mix.InS (fun z => Below W1.heap.size W1 z)) := ⟨⟨W1, Below.refl _ _⟩⟩
  have HMC := Lib.hid (fun (w' : World) (hx : ∃ x : Mix.InS (fun z => Below W1.heap.size W1 z), w' = x.w) => (show MapF (intK 3) w' m (fun i => (got X i).map opR.val) n from by obtain ⟨z, rfl⟩ := hx; exact HM.out z.w z.h))
  have d1 := fun (z : Mix.InS (fun z => Below W1.heap.size W1 z)) => below_cell z.h q1
  have d2 := fun (z : Mix.InS (fun z => Below W1.heap.size W1 z)) => below_cell z.h c4
  have d3 := fun (z : Mix.InS (fun z => Below W1.heap.size W1 z)) => below_cell z.h k0
  refine Mix.wp_region_mix [([0, 1, 2, 3, 4, 5, 6, 7, 8, 9], 10), ([], 11)] [12] (fun w' => ∃ x : Mix.InS (fun z => Below W1.heap.size W1 z), w' = x.w) (by kernel_rfl) (by kernel_rfl) (Mix.inS_mk (Below.refl _ _).drew) ?_
  have hbd : Below W1.heap.size W1 W1.drew := (Below.refl _ _).drew
  generalize W1.drew = W2 at hbd ⊢
  refine Mix.stages_cons ?_
  simp only [Mix.pickL, List.getElem?_cons_zero, List.getElem?_cons_succ]
  repeat (first
    | go_big_quiet_skip
    | (go_big_quiet_want; first
      | (refine quiet_lookupOk (intK_ok Try.underlying3) _ _ 57 30 rfl Try.underlying57 (z := opR.val zeroOp) (fun w => Try.zeroValue30 w) rfl HMC.out o.id rfl ?_; rw [HV.out.1, HV.out.2]; simp only [Act.put, List.setIfInBounds_toArray, List.set_cons_succ, List.set_cons_zero]; go_big_quiet_on)
      | (go_big_quiet_op; go_big_quiet_on)))
  refine wpQuiet_nil ?_
  go_wp2_with (fail)
  have hbd3 := hbd.alloc hbd.size (.cells zeroOp.cells.toArray 30)
  refine Mix.onward_in (W' := W2.alloc (.cells zeroOp.cells.toArray 30)) (hbd.alloc hbd.size _) ?_
  refine Mix.stages_cons ?_
  simp only [Mix.pickL, List.getElem?_cons_zero, List.getElem?_cons_succ]
  refine wpQuiet_nil ?_
  go_wp2_with (refine wpList_store_row rfl 30 _ _ rfl W2.heap.size x.cells.toArray rfl rfl 30 zeroOp.cells.toArray (heap_alloc_new _ _) (opRow' x) rfl (opOne x) ?_)
  have hb4 : Below W1.heap.size W1 ((W2.alloc (.cells zeroOp.cells.toArray 30)).setRow W2.heap.size x.cells.toArray) := below_row hbd3 hbd.size _
  generalize (W2.alloc (.cells zeroOp.cells.toArray 30)).setRow W2.heap.size x.cells.toArray = W4 at hb4 ⊢
  refine Mix.onward_in (W' := W4) hb4 ?_
  refine Mix.stages_nil ?_
  simp only [Mix.pickL, List.getElem?_cons_zero, List.getElem?_cons_succ]
  repeat (first
    | go_big_quiet_skip
    | (go_big_quiet_want; first
      | (refine quiet_lookupOk (intK_ok Try.underlying3) _ _ 57 30 rfl Try.underlying57 (z := opR.val zeroOp) (fun w => Try.zeroValue30 w) rfl HMC.out o.id rfl ?_; rw [HV.out.1, HV.out.2]; simp only [Act.put, List.setIfInBounds_toArray, List.set_cons_succ, List.set_cons_zero]; go_big_quiet_on)
      | (go_big_quiet_op; go_big_quiet_on)))
  refine wpQuiet_nil ?_
  clear d1 d2 d3
  have k0 := below_cell hb4 k0
  have qn1 := below_cell hb4 HQN.out
  have fin := bthen' HB1.out hb4
  cases xo with
  | some y =>
    have hv := Lib.hid (show freshB next X o = false from by unfold freshB; rw [← HXO.out]; rfl)
    go_wp2_with fail
    go_ret
    exact ⟨by rw [hv.out]; rfl, fin⟩
  | none =>
    by_cases h1 : 1 ≤ o.id
    · by_cases h2 : o.id < next
      · have hv := Lib.hid (show freshB next X o = true from by unfold freshB; rw [← HXO.out, decide_eq_true h1, decide_eq_true h2]; rfl)
        go_wp2_with fail
        go_ret
        exact ⟨by rw [hv.out]; rfl, fin⟩
      · have hv := Lib.hid (show freshB next X o = false from by unfold freshB; rw [← HXO.out, decide_eq_false h2]; simp)
        go_wp2_with fail
        go_ret
        exact ⟨by rw [hv.out]; rfl, fin⟩
    · have hv := Lib.hid (show freshB next X o = false from by unfold freshB; rw [← HXO.out, decide_eq_false h1]; simp)
      go_wp2_with fail
      go_ret
      exact ⟨by rw [hv.out]; rfl, fin⟩
end Go.Proofs.Ytddmajgadaooaaa
