/- Are two lists of operations the same? (Printed by gensame.py.) -/
import Derived.Test.YtddmajgadaooaaaOpLaw
import Derived.Test.YtddmajgadaooaaaRecM
set_option linter.unusedVariables false
namespace Go.Proofs.Ytddmajgadaooaaa
open Go.RowKit

theorem opGuard : Try.prog.eqGuardType Try.prog.depth 30 = false := by kernel_rfl
theorem op_neq (x y : OpV) (w : World) : (binOp BinOp.neq 30 (.agg x.cells.toArray) (.agg y.cells.toArray)).run Try.prog w = .ok (.bool (!decide (x = y))) w := by
  have h := op_eq 9997 x y w
  rw [run_neq_struct]
  rw [show (Op.equalIn 10000 30 (.agg x.cells.toArray) (.agg y.cells.toArray)).run Try.prog w = .ok (decide (x = y)) w from h]
  rfl
theorem op_gd (op : BinOp) (a b : Operand) (x y : OpV) (w : World) : (eqGuard op 30 a b (.agg x.cells.toArray) (.agg y.cells.toArray)).run Try.prog w = .ok () w := run_eqGuard_agg w op _ a b _ _ opGuard
theorem quiet_neqO {C : World → Prop} {K : Act → Prop} {a : Act} {o : Oper} (p q : Operand) (ty : TypeId) (ho : o.op = .binOp .neq 30 p q ty) (x y : OpV) (hp : a.eval p = .agg x.cells.toArray) (hq : a.eval q = .agg y.cells.toArray)
    (h : K (a.put o.dst (.bool (!decide (x = y))))) : o.quiet Try.prog a C K :=
  ⟨.bool (!decide (x = y)), fun w hw => by
    unfold Oper.quietAt execOp
    simp only [ho, hp, hq, Sem.run_bind, op_gd, op_neq, Result.andThen_ok, Sem.run_pure]
    exact ⟨rfl, rfl⟩, h⟩
set_option maxRecDepth 100000 in
set_option maxHeartbeats 1000000 in
theorem opsame_any (w : World) (va vb : Value) (A B : List _) (ha : Reads opR w va A) (hb : Reads opR w vb B) (hbig : A.length ≤ 1000000) :
    Calls Try.prog 17 #[va, vb] w fun e w' => e = .returned (.bool (decide (A = B))) ∧ Below w.heap.size w w' := by
  obtain ⟨aa, capa, rfl⟩ := ha.form
  obtain ⟨ab, capb, rfl⟩ := hb.form
  by_cases hlen : A.length = B.length
  · have hlen2 := hlen.symm
    clear hlen
    have HA := Lib.hid ha
    have HB := Lib.hid hb
    clear ha hb
    go_enter Try.func17, Try.ntmps17
    go_wp2_with fail
    go_loopw [5] (fun i wr => ∃ k : Nat, k ≤ A.length ∧ i = .int .i64 k ∧ Below w.heap.size w wr ∧ A.take k = B.take k) (fun i _ => A.length - (intOf i).toNat)
    case atStart => exact ⟨0, by omega, rfl, Below.refl _ _, by simp⟩
    case round =>
      obtain ⟨k, hk, rfl, hW, hE⟩ := hrel
      have HE := Lib.hid hE
      clear hE
      by_cases hlt : k < A.length
      · obtain ⟨x, hx⟩ : ∃ x, A[k]? = some x := ⟨_, List.getElem?_eq_getElem hlt⟩
        obtain ⟨y, hy⟩ : ∃ y, B[k]? = some y := ⟨_, List.getElem?_eq_getElem (by omega)⟩
        obtain ⟨b1, o1, rfl, r1⟩ := (HA.out.below hW).at hx
        obtain ⟨b2, o2, rfl, r2⟩ := (HB.out.below hW).at hy
        have HX := Lib.hid hx
        have HY := Lib.hid hy
        have R1 := Lib.hid (fun (w' : World) (hx : ∃ x : Later wr, w' = x.w) => (show w'.rangeAt b1 (o1 + k * opR.n) (opR.cells x) from by obtain ⟨z, rfl⟩ := hx; exact below_range z.h r1))
        have R2 := Lib.hid (fun (w' : World) (hx : ∃ x : Later wr, w' = x.w) => (show w'.rangeAt b2 (o2 + k * opR.n) (opR.cells y) from by obtain ⟨z, rfl⟩ := hx; exact below_range z.h r2))
        clear hx hy r1 r2
        go_wp2_with fail
        refine wp_region_later (by kernel_rfl) (by kernel_rfl) (Below.refl _ _) ?_
        repeat (first
          | go_big_quiet_skip
          | (go_big_quiet_want; first
            | (refine quiet_load_mid 30 _ rfl b1 (o1 + k * opR.n) rfl (opR.cells x) _ R1.out Try.underlying30 rfl (opOk.row x) ?_; simp only [Act.put, List.setIfInBounds_toArray, List.set_cons_succ, List.set_cons_zero]; go_big_quiet_on)
            | (refine quiet_load_mid 30 _ rfl b2 (o2 + k * opR.n) rfl (opR.cells y) _ R2.out Try.underlying30 rfl (opOk.row y) ?_; simp only [Act.put, List.setIfInBounds_toArray, List.set_cons_succ, List.set_cons_zero]; go_big_quiet_on)
            | (refine quiet_neqO _ _ _ rfl x y rfl rfl ?_; simp only [Act.put, List.setIfInBounds_toArray, List.set_cons_succ, List.set_cons_zero]; go_big_quiet_on)
            | (go_big_quiet_op; go_big_quiet_on)))
        refine wpQuiet_nil ?_
        rintro ⟨W2, hb2⟩
        dsimp only
        clear R1 R2
        by_cases hxy : x = y
        · have HE2 := Lib.hid (take_eq_of HE.out HX.out HY.out hxy)
          have hxyb : decide (x = y) = true := decide_eq_true hxy
          clear HX HY HE
          clear hxy
          rw [hxyb]
          go_wp2_with fail
          go_roundw
          case rel => exact ⟨k + 1, by omega, by go_num, bthen' hW hb2, HE2.out⟩
          case measure => simp [intOf]; omega
        · have hne := Lib.hid (show decide (A = B) = false from decide_eq_false (fun e => hxy (by
            have h1 := HX.out
            rw [e, HY.out] at h1
            exact (Option.some.inj h1).symm)))
          have hxyb : decide (x = y) = false := decide_eq_false hxy
          clear hxy HX HY HE
          rw [hxyb]
          go_wp2_with fail
          go_ret
          exact ⟨by rw [hne.out]; rfl, bthen' hW hb2⟩
      · obtain rfl : k = A.length := by omega
        have hAB := Lib.hid (show decide (A = B) = true from decide_eq_true (by have := HE.out; rw [List.take_length, ← hlen2, List.take_length] at this; exact this))
        clear HE
        go_wp2_with fail
        go_ret
        exact ⟨by rw [hAB.out]; rfl, hW⟩
  · have hne := Lib.hid (show decide (A = B) = false from decide_eq_false (fun e => hlen (by rw [e])))
    clear ha hb
    have hlb : (((A.length : Nat) : Int) != ((B.length : Nat) : Int)) = true := by simp; omega
    clear hlen
    go_enter Try.func17, Try.ntmps17
    go_wp2_with fail
    go_ret
    exact ⟨by rw [hne.out]; rfl, Below.refl _ _⟩

end Go.Proofs.Ytddmajgadaooaaa
