/- The document's flight. -/
import Derived.Test.YtddmajgadaooaaaOpRef
set_option linter.unusedVariables false
namespace Go.Proofs.Ytddmajgadaooaaa
open Go.RowKit

theorem flt_first {L : List OpV} {f : Fli} {k : Nat} {x : OpV} (h : ∀ y ∈ L.take k, y.fli ≠ f) (hx : L[k]? = some x) (hf : x.fli = f) : firstI (flt L f) = x.id := by
  have e : L = L.take k ++ x :: L.drop (k + 1) := by
    obtain ⟨hk, he⟩ := List.getElem?_eq_some_iff.1 hx
    rw [← he, List.getElem_cons_drop, List.take_append_drop]
  unfold flt firstI
  rw [e, List.filter_append, List.filter_eq_nil_iff.2 (fun y hy => by simpa using h y hy), List.nil_append, List.filter_cons, decide_eq_true hf]
  rfl
theorem flt_none {L : List OpV} {f : Fli} (h : ∀ y ∈ L, y.fli ≠ f) : flt L f = [] := by
  unfold flt
  rw [List.filter_eq_nil_iff.2 (fun y hy => by simpa using h y hy)]
  rfl
theorem fli_ten (x : OpV) : x.fli.ten = x.ten := rfl
theorem op_acn_at {w : World} {b o : Nat} {x : OpV} (h : w.rangeAt b o x.cells) : w.rangeAt b (o + 3) x.acn.cells := op_acn h

set_option maxRecDepth 100000 in
set_option maxHeartbeats 4000000 in
theorem rflight_any (w : World) (keep next : Int) (vl ve : Value) (L : List OpV) (f : Fli) (hv : Reads opR w vl L) (hL : L.length ≤ 100000) :
    Calls Try.prog 33 #[.agg #[.int .i64 keep, .int .i64 next, vl, ve], .int .i64 f.ten, .agg f.a.cells.toArray] w fun e w' => e = .returned (.int .i64 (firstI (flt L f))) ∧ Below w.heap.size w w' := by
  obtain ⟨av, cv, rfl⟩ := hv.form
  have hbx := two_boxes (w := w) (A := .cells #[.int .i64 keep, .int .i64 next, .slice av L.length cv, ve] 46) (B := .cells f.a.cells.toArray 27) (Below.refl _ _)
  obtain ⟨W1, hW1⟩ : ∃ W1, W1 = (w.alloc (.cells #[.int .i64 keep, .int .i64 next, .slice av L.length cv, ve] 46)).alloc (.cells f.a.cells.toArray 27) := ⟨_, rfl⟩
  rw [← hW1] at hbx
  obtain ⟨hA, hB, hb1, hs1⟩ := hbx
  have HA := Lib.hid hA
  have HB := Lib.hid hB
  have HB1 := Lib.hid hb1
  have HV := Lib.hid (hv.below hb1)
  clear hA hB hv hs1
  go_enter Try.func33, Try.ntmps33
  go_upto_region 1 with fail
  show Code.wp _ _ _ _ ((w.alloc (.cells #[.int .i64 keep, .int .i64 next, .slice av L.length cv, ve] 46)).alloc (.cells f.a.cells.toArray 27))
  rw [← hW1]
  clear hW1 hb1
  go_wp2_with fail
  go_loopw [7] (fun j wr => ∃ k : Nat, k ≤ L.length ∧ j = .int .i64 k ∧ Below W1.heap.size W1 wr ∧ Hid (∀ y ∈ L.take k, y.fli ≠ f)) (fun j _ => L.length - (intOf j).toNat)
  case atStart => exact ⟨0, by omega, rfl, Below.refl _ _, Lib.hid (by simp)⟩
  case round =>
    obtain ⟨k, hk, rfl, hW, hE⟩ := hrel
    have k2 : wr.cell? ⟨w.heap.size, 2, none⟩ = some (.slice av L.length cv) := cell_of_row wr _ _ _ _ _ (kept hW HA.out)
    by_cases hlt : k < L.length
    · obtain ⟨x, hx⟩ : ∃ x, L[k]? = some x := ⟨_, List.getElem?_eq_getElem hlt⟩
      obtain ⟨b1, o1, rfl, r1⟩ := (HV.out.below hW).at hx
      have HX := Lib.hid hx
      have c1 : wr.cell? ⟨b1, o1 + k * 18 + 1, none⟩ = some (.int .i64 x.ten) := by have := r1 1 _ rfl; simpa [opR] using this
      have c0 : wr.cell? ⟨b1, o1 + k * 18, none⟩ = some (.int .i64 x.id) := by have := r1 0 _ rfl; simpa [opR] using this
      have ra : wr.rangeAt b1 (o1 + k * 18 + 3) x.acn.cells := op_acn_at r1
      have rb : wr.rangeAt (w.heap.size + 1) 0 f.a.cells := fun j v hv => by
        rw [cell_of_row wr _ (0 + j) _ _ (0, 0) (kept hW HB.out)]
        simpa using hv
      have d1 := fun (z : Later wr) => z.cell c1
      have d2 := fun (z : Later wr) => z.cell k2
      have RA := Lib.hid (fun w' hx => later_range ra w' hx)
      have RB := Lib.hid (fun w' hx => later_range rb w' hx)
      have C0 := Lib.hid c0
      clear hx r1 c0 ra rb
      have wrong : x.fli ≠ f → Hid (∀ y ∈ L.take (k + 1), y.fli ≠ f) := fun hn => Lib.hid (by
        rw [← take_snoc HX.out]
        intro y hy
        rcases List.mem_append.1 hy with hy | hy
        · exact hE.out y hy
        · simp at hy; subst hy; exact hn)
      have WR := Lib.hid wrong
      clear wrong
      cases ht : (x.ten == f.ten) with
      | false =>
        have HE2 := WR.out (fun e => by rw [← e] at ht; simp [fli_ten] at ht)
        go_wp2_with fail
        refine wp_region_later (by kernel_rfl) (by kernel_rfl) (Below.refl _ _) ?_
        repeat (first
          | go_big_quiet_skip
          | (go_big_quiet_want; (go_big_quiet_op; go_big_quiet_on)))
        refine wpQuiet_nil ?_
        rintro ⟨W2, hb2⟩
        dsimp only
        clear d1 d2 RA RB
        go_wp2_with fail
        go_roundw
        case rel => exact ⟨k + 1, by omega, by go_num, bthen' hW hb2, HE2⟩
        case measure => simp [intOf]; omega
      | true =>
        have htt : x.ten = f.ten := by simpa using ht
        have HTT := Lib.hid htt
        clear htt
        cases hac : decide (x.acn = f.a) with
        | false =>
          have HE2 := WR.out (fun e => by rw [← e] at hac; simp [OpV.fli] at hac)
          go_wp2_with fail
          refine wp_region_later (by kernel_rfl) (by kernel_rfl) (Below.refl _ _) ?_
          repeat (first
            | go_big_quiet_skip
            | (go_big_quiet_want; first
              | (refine quiet_load_mid 27 _ rfl b1 (o1 + k * 18 + 3) rfl x.acn.cells _ RA.out Try.underlying27 rfl (acnRow x.acn) ?_; simp only [Act.put, List.setIfInBounds_toArray, List.set_cons_succ, List.set_cons_zero]; go_big_quiet_on)
              | (refine quiet_load_mid 27 _ rfl (w.heap.size + 1) 0 rfl f.a.cells _ RB.out Try.underlying27 rfl (acnRow f.a) ?_; simp only [Act.put, List.setIfInBounds_toArray, List.set_cons_succ, List.set_cons_zero]; go_big_quiet_on)
              | (refine quiet_eqlA _ _ _ rfl x.acn f.a rfl rfl ?_; rw [hac]; simp only [Act.put, List.setIfInBounds_toArray, List.set_cons_succ, List.set_cons_zero]; go_big_quiet_on)
              | (go_big_quiet_op; go_big_quiet_on)))
          refine wpQuiet_nil ?_
          rintro ⟨W2, hb2⟩
          dsimp only
          clear d1 d2 RA RB
          go_wp2_with fail
          go_roundw
          case rel => exact ⟨k + 1, by omega, by go_num, bthen' hW hb2, HE2⟩
          case measure => simp [intOf]; omega
        | true =>
          have hfx : x.fli = f := by
            have h2 : x.acn = f.a := of_decide_eq_true hac
            cases f with | mk t a => exact (Fli.mk.injEq _ _ _ _).mpr ⟨HTT.out, h2⟩
          have HF := Lib.hid (flt_first hE.out HX.out hfx)
          clear hfx
          go_wp2_with fail
          refine wp_region_later (by kernel_rfl) (by kernel_rfl) (Below.refl _ _) ?_
          repeat (first
            | go_big_quiet_skip
            | (go_big_quiet_want; first
              | (refine quiet_load_mid 27 _ rfl b1 (o1 + k * 18 + 3) rfl x.acn.cells _ RA.out Try.underlying27 rfl (acnRow x.acn) ?_; simp only [Act.put, List.setIfInBounds_toArray, List.set_cons_succ, List.set_cons_zero]; go_big_quiet_on)
              | (refine quiet_load_mid 27 _ rfl (w.heap.size + 1) 0 rfl f.a.cells _ RB.out Try.underlying27 rfl (acnRow f.a) ?_; simp only [Act.put, List.setIfInBounds_toArray, List.set_cons_succ, List.set_cons_zero]; go_big_quiet_on)
              | (refine quiet_eqlA _ _ _ rfl x.acn f.a rfl rfl ?_; rw [hac]; simp only [Act.put, List.setIfInBounds_toArray, List.set_cons_succ, List.set_cons_zero]; go_big_quiet_on)
              | (go_big_quiet_op; go_big_quiet_on)))
          refine wpQuiet_nil ?_
          rintro ⟨W2, hb2⟩
          dsimp only
          clear d1 d2 RA RB
          have k2' := below_cell hb2 k2
          have c0' := below_cell hb2 C0.out
          go_wp2_with fail
          go_ret
          exact ⟨by rw [HF.out]; rfl, bthen' HB1.out (bthen' hW hb2)⟩
    · obtain rfl : k = L.length := by omega
      have HN := Lib.hid (show firstI (flt L f) = 0 from by rw [flt_none (by have := hE.out; rwa [List.take_length] at this)]; rfl)
      clear hE
      go_wp2_with fail
      go_ret
      exact ⟨by rw [HN.out]; rfl, bthen' HB1.out hW⟩
end Go.Proofs.Ytddmajgadaooaaa
