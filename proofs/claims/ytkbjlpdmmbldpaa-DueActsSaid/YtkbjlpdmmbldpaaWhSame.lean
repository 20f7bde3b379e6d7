/- Are two lists of timers the same? (Printed by gensame.py.) -/
import Derived.Test.YtkbjlpdmmbldpaaWhNew
import Derived.Laws.StructEq
set_option linter.unusedVariables false
set_option linter.unusedSimpArgs false
set_option maxRecDepth 100000
namespace Go.Proofs.Ytkbjlpdmmbldpaa
open Go.RowKit

theorem tm_part0 (x : Tm) (w : World) : (part 3 (timR.cells x).toArray 0).run Try.prog w = .ok (.int .i64 x.k) w := by
  have ht : (isAgg 3).run Try.prog w = .ok false w := by kernel_rfl
  simp [part, ht, Rec.cells, timR, Value.cells]
theorem tm_part1 (x : Tm) (w : World) : (part 3 (timR.cells x).toArray 1).run Try.prog w = .ok (.int .i64 x.id) w := by
  have ht : (isAgg 3).run Try.prog w = .ok false w := by kernel_rfl
  simp [part, ht, Rec.cells, timR, Value.cells]
theorem tm_part2 (x : Tm) (w : World) : (part 22 (timR.cells x).toArray 2).run Try.prog w = .ok (.int .u64 (x.t : Int)) w := by
  have ht : (isAgg 22).run Try.prog w = .ok false w := by kernel_rfl
  simp [part, ht, Rec.cells, timR, Value.cells]
theorem tm_eq (d : Nat) (x y : Tm) (w : World) : (Op.equalIn (d + 2) 54 (.agg (timR.cells x).toArray) (.agg (timR.cells y).toArray)).run Try.prog w = .ok (decide (x = y)) w := by
  have h0 : Try.prog.stoodInHeld 54 = false := by kernel_rfl
  unfold Op.equalIn
  simp only [Sem.run_bind, run_underlying Try.underlying54, Result.andThen_ok]
  simp [Sem.run_bind, h0, tm_part0, tm_part1, tm_part2, run_equalIn_int w d 3 .i64 .i64 _ _ Try.underlying3, run_equalIn_int w d 22 .u64 .u64 _ _ Try.underlying22]
  obtain ⟨a1, a2, a3⟩ := x
  obtain ⟨b1, b2, b3⟩ := y
  simp only [Tm.mk.injEq]
  by_cases h1 : a1 = b1 <;> by_cases h2 : a2 = b2 <;> by_cases h3 : a3 = b3 <;> simp [h1, h2, h3] <;> omega
theorem tmGuard : Try.prog.eqGuardType Try.prog.depth 54 = false := by kernel_rfl
set_option maxRecDepth 100000 in
set_option maxHeartbeats 1000000 in
theorem same_any (w : World) (va vb : Value) (A B : List _) (ha : Reads timR w va A) (hb : Reads timR w vb B) (hbig : A.length ≤ 1000000) :
    Calls Try.prog 13 #[va, vb] w fun e w' => e = .returned (.bool (decide (A = B))) ∧ Below w.heap.size w w' := by
  obtain ⟨aa, capa, rfl⟩ := ha.form
  obtain ⟨ab, capb, rfl⟩ := hb.form
  by_cases hlen : A.length = B.length
  · have hlen2 := hlen.symm
    clear hlen
    have HA := Lib.hid ha
    have HB := Lib.hid hb
    clear ha hb
    go_enter Try.func13, Try.ntmps13
    go_wp2_with fail
    go_loopw [5] (fun i wr => ∃ k : Nat, k ≤ A.length ∧ i = .int .i64 k ∧ Below w.heap.size w wr ∧ A.take k = B.take k) (fun i _ => A.length - (intOf i).toNat)
    case atStart => exact ⟨0, by omega, rfl, Below.refl _ _, by simp⟩
    case round =>
      obtain ⟨k, hk, rfl, hW, hE⟩ := hrel
      have HE := Lib.hid hE
      clear hE
      by_cases hlt : k < A.length
      · obtain ⟨x, hx⟩ : ∃ x, A[k]? = some x := ⟨_, List.getElem?_eq_getElem hlt⟩
        obtain ⟨y, hy⟩ : ∃ y, B[k]? = some y := ⟨_, List.getElem?_eq_getElem (by omega)⟩
        obtain ⟨b1, o1, rfl, r1⟩ := (HA.out.below hW).at hx
        obtain ⟨b2, o2, rfl, r2⟩ := (HB.out.below hW).at hy
        have HX := Lib.hid hx
        have HY := Lib.hid hy
        have R1 := Lib.hid (fun (w' : World) (hx : ∃ x : Later wr, w' = x.w) => (show w'.rangeAt b1 (o1 + k * timR.n) (timR.cells x) from by obtain ⟨z, rfl⟩ := hx; exact below_range z.h r1))
        have R2 := Lib.hid (fun (w' : World) (hx : ∃ x : Later wr, w' = x.w) => (show w'.rangeAt b2 (o2 + k * timR.n) (timR.cells y) from by obtain ⟨z, rfl⟩ := hx; exact below_range z.h r2))
        clear hx hy r1 r2
        have hsame := fun w => tm_eq 9998 x y w
        have hguard := tmGuard
        go_wp2_with fail
        refine wp_region_later (by kernel_rfl) (by kernel_rfl) (Below.refl _ _) ?_
        repeat (first
          | go_big_quiet_skip
          | (go_big_quiet_want; first
            | (refine quiet_load_mid 54 _ rfl b1 (o1 + k * timR.n) rfl (timR.cells x) _ R1.out Try.underlying54 rfl (timOk.row x) ?_; simp only [Act.put, List.setIfInBounds_toArray, List.set_cons_succ, List.set_cons_zero]; go_big_quiet_on)
            | (refine quiet_load_mid 54 _ rfl b2 (o2 + k * timR.n) rfl (timR.cells y) _ R2.out Try.underlying54 rfl (timOk.row y) ?_; simp only [Act.put, List.setIfInBounds_toArray, List.set_cons_succ, List.set_cons_zero]; go_big_quiet_on)
            | (go_big_quiet_op; go_big_quiet_on)))
        refine wpQuiet_nil ?_
        rintro ⟨W2, hb2⟩
        dsimp only
        clear hsame hguard R1 R2
        by_cases hxy : x = y
        · have HE2 := Lib.hid (take_eq_of HE.out HX.out HY.out hxy)
          have hxyb : decide (x = y) = true := decide_eq_true hxy
          clear HX HY HE
          clear hxy
          rw [hxyb]
          go_wp2_with fail
          go_roundw
          case rel => exact ⟨k + 1, by omega, by go_num, bthen' hW hb2, HE2.out⟩
          case measure => simp [intOf]; omega
        · have hne := Lib.hid (show decide (A = B) = false from decide_eq_false (fun e => hxy (by
            have h1 := HX.out
            rw [e, HY.out] at h1
            exact (Option.some.inj h1).symm)))
          have hxyb : decide (x = y) = false := decide_eq_false hxy
          clear hxy HX HY HE
          rw [hxyb]
          go_wp2_with fail
          go_ret
          exact ⟨by rw [hne.out]; rfl, bthen' hW hb2⟩
      · obtain rfl : k = A.length := by omega
        have hAB := Lib.hid (show decide (A = B) = true from decide_eq_true (by have := HE.out; rw [List.take_length, ← hlen2, List.take_length] at this; exact this))
        clear HE
        go_wp2_with fail
        go_ret
        exact ⟨by rw [hAB.out]; rfl, hW⟩
  · have hne := Lib.hid (show decide (A = B) = false from decide_eq_false (fun e => hlen (by rw [e])))
    clear ha hb
    have hlb : (((A.length : Nat) : Int) != ((B.length : Nat) : Int)) = true := by simp; omega
    clear hlen
    go_enter Try.func13, Try.ntmps13
    go_wp2_with fail
    go_ret
    exact ⟨by rw [hne.out]; rfl, Below.refl _ _⟩

end Go.Proofs.Ytkbjlpdmmbldpaa
