/- Is a table the document's? (Printed by genopis.py.) -/
import Derived.Test.YtddmajgadaooaaaOpSame
import Derived.Test.YtddmajgadaooaaaOpRSet
import Derived.Test.YtddmajgadaooaaaOpNil
set_option linter.unusedVariables false
set_option linter.unusedSimpArgs false
namespace Go.Proofs.Ytddmajgadaooaaa
open Go.RowKit

theorem op_eql (x y : OpV) (w : World) : (binOp BinOp.eql 30 (.agg x.cells.toArray) (.agg y.cells.toArray)).run Try.prog w = .ok (.bool (decide (x = y))) w := by
  have h := op_eq 9997 x y w
  rw [run_eql_struct]
  rw [show (Op.equalIn 10000 30 (.agg x.cells.toArray) (.agg y.cells.toArray)).run Try.prog w = .ok (decide (x = y)) w from h]
  rfl
theorem quiet_eqlO {C : World → Prop} {K : Act → Prop} {a : Act} {o : Oper} (p q : Operand) (ty : TypeId) (ho : o.op = .binOp .eql 30 p q ty) (x y : OpV) (hp : a.eval p = .agg x.cells.toArray) (hq : a.eval q = .agg y.cells.toArray)
    (h : K (a.put o.dst (.bool (decide (x = y))))) : o.quiet Try.prog a C K :=
  ⟨.bool (decide (x = y)), fun w hw => by
    unfold Oper.quietAt execOp
    simp only [ho, hp, hq, Sem.run_bind, op_gd, op_eql, Result.andThen_ok, Sem.run_pure]
    exact ⟨rfl, rfl⟩, h⟩
theorem flt_pos {keep next : Int} {L D : List OpV} (h : Inv keep next L D) (f : Fli) : decide (flt L f ≠ []) = decide (firstI (flt L f) > 0) := by
  cases hf : flt L f with
  | nil => rfl
  | cons i l =>
    have hm : i ∈ flt L f := by rw [hf]; exact List.mem_cons_self
    unfold flt at hm
    obtain ⟨x, hx, rfl⟩ := List.mem_map.1 hm
    have := h.rng x (List.mem_append_left _ (List.mem_filter.1 hx).1)
    have e : firstI (x.id :: l) = x.id := rfl
    rw [e, decide_eq_true (by simp : x.id :: l ≠ []), decide_eq_true (by omega)]
/-- A table in memory, and the document's lists. -/
structure SameI (T : Nat → Prop) (w : World) (t : Nat) (keep next : Int) (L D : List OpV) (vl ve : Value) : Prop where
  t : OT T w t keep next L D
  l : Reads opR w vl L
  d : Reads opR w ve D
theorem SameI.below {T : Nat → Prop} {w w' : World} {t : Nat} {keep next : Int} {L D : List OpV} {vl ve : Value} (s : SameI T w t keep next L D vl ve) (hb : Below w.heap.size w w') : SameI T w' t keep next L D vl ve :=
  ⟨s.t.below hb, s.l.below hb, s.d.below hb⟩
theorem rtRow : (Try.prog.info? 46).map (·.size) = some 4 := by kernel_rfl
theorem rt_range {w : World} {b : Nat} {a1 a2 a3 a4 : Value} (h : w.heap[b]? = some (.cells #[a1, a2, a3, a4] 46 (0, 0))) : w.rangeAt b 0 [a1, a2, a3, a4] := fun j v hv => by
  rw [cell_of_row _ b (0 + j) _ _ (0, 0) h]
  simpa using hv
def TellsYes (w : World) (e : Ending) (w' : World) : Prop := e = .returned (.bool true) ∧ Below w.heap.size w w'

set_option maxRecDepth 100000 in
set_option maxHeartbeats 4000000 in
theorem is_any (T : Nat → Prop) (w : World) (t : Nat) (keep next : Int) (L D : List OpV) (vl ve : Value) (S : SameI T w t keep next L D vl ve) (o : OpV) (hL : L.length ≤ 100000) (hD : D.length ≤ 100000) :
    Calls Try.prog 21 #[.pointer (some ⟨t, 0, none⟩), .agg #[.int .i64 keep, .int .i64 next, vl, ve], .agg o.cells.toArray] w (TellsYes w) := by
  have kG := fun W (s : SameI T W t keep next L D vl ve) => get_T s.t o.id
  have kRG := fun W (s : SameI T W t keep next L D vl ve) => rget_any W keep next vl ve L D o.id s.l s.d hL hD
  have kF := fun W (s : SameI T W t keep next L D vl ve) => flight_T s.t o.fli
  have kRF := fun W (s : SameI T W t keep next L D vl ve) => rflight_any W keep next vl ve L o.fli s.l hL
  have kL := fun W (s : SameI T W t keep next L D vl ve) => live_T s.t hL
  have kE := fun W (s : SameI T W t keep next L D vl ve) => ended_T s.t hD
  have kN := fun W (s : SameI T W t keep next L D vl ve) => next_T s.t
  have kSL := fun W (s : SameI T W t keep next L D vl ve) va (ha : Reads opR W va L) => opsame_any W va vl L L ha s.l (by omega)
  have kSD := fun W (s : SameI T W t keep next L D vl ve) va (ha : Reads opR W va D) => opsame_any W va ve D D ha s.d (by omega)
  simp only [decide_true] at kSL kSD
  simp only [flt_pos S.t.inv] at kF
  generalize (got (L ++ D) o.id).isSome = is at kG kRG
  generalize (got (L ++ D) o.id).getD zeroOp = x at kG kRG
  generalize firstI (flt L o.fli) = z at kF kRF
  have kG2 : ∀ W (s : SameI T W t keep next L D vl ve), Calls Try.prog 14 #[.pointer (some ⟨t, 0, none⟩), .int .i64 o.id] W fun e w' => e = .returned (.tuple #[.agg x.cells.toArray, .bool is]) ∧ Below W.heap.size W w' := kG
  have kRG2 : ∀ W (s : SameI T W t keep next L D vl ve), Calls Try.prog 32 #[.agg #[.int .i64 keep, .int .i64 next, vl, ve], .int .i64 o.id] W fun e w' => e = .returned (.tuple #[.agg x.cells.toArray, .bool is]) ∧ Below W.heap.size W w' := kRG
  have kF2 : ∀ W (s : SameI T W t keep next L D vl ve), Calls Try.prog 22 #[.pointer (some ⟨t, 0, none⟩), .int .i64 o.ten, .agg o.acn.cells.toArray] W fun e w' => e = .returned (.tuple #[.int .i64 z, .bool (decide (z > 0))]) ∧ Below W.heap.size W w' := kF
  have kRF2 : ∀ W (s : SameI T W t keep next L D vl ve), Calls Try.prog 33 #[.agg #[.int .i64 keep, .int .i64 next, vl, ve], .int .i64 o.ten, .agg o.acn.cells.toArray] W fun e w' => e = .returned (.int .i64 z) ∧ Below W.heap.size W w' := kRF
  clear kG kRG kF kRF
  obtain ⟨av, cv, rfl⟩ := S.l.form
  obtain ⟨ad, cd, rfl⟩ := S.d.form
  have KG2 := Lib.hid kG2
  clear kG2
  have KRG2 := Lib.hid kRG2
  clear kRG2
  have KF2 := Lib.hid kF2
  clear kF2
  have KRF2 := Lib.hid kRF2
  clear kRF2
  have KL := Lib.hid kL
  clear kL
  have KE := Lib.hid kE
  clear kE
  have KN := Lib.hid kN
  clear kN
  have KSL := Lib.hid kSL
  clear kSL
  have KSD := Lib.hid kSD
  clear kSD
  have hbx := two_boxes (w := w) (A := .cells #[.int .i64 keep, .int .i64 next, .slice av L.length cv, .slice ad D.length cd] 46) (B := .cells o.cells.toArray 30) (Below.refl _ _)
  obtain ⟨W1, hW1⟩ : ∃ W1, W1 = ((w.alloc (.cells #[.int .i64 keep, .int .i64 next, .slice av L.length cv, .slice ad D.length cd] 46)).alloc (.cells o.cells.toArray 30)) := ⟨_, rfl⟩
  rw [← hW1] at hbx
  obtain ⟨hA, hB, hb1, hs1⟩ := hbx
  have HA1 := Lib.hid hA
  have HB1 := Lib.hid hB
  have HW1 := Lib.hid hb1
  have S1 := Lib.hid (S.below hb1)
  have k0 : W1.cell? ⟨w.heap.size + 1, 0, none⟩ = some (.int .i64 o.id) := by simpa using (op_range hB) 0 _ rfl
  clear S hA hB hs1
  go_enter Try.func21, Try.ntmps21
  go_upto_region 1 with fail
  show Code.wp _ _ _ _ ((w.alloc (.cells #[.int .i64 keep, .int .i64 next, .slice av L.length cv, .slice ad D.length cd] 46)).alloc (.cells o.cells.toArray 30))
  rw [← hW1]
  clear hW1 hb1
  go_upto_region 2 with (first
    | (go_at_call 14; refine (KG2.out W1 S1.out).mono ?_; rintro e W2 ⟨rfl, hb2⟩)
    | (refine wpList_store_row rfl 30 _ _ rfl W2.heap.size x.cells.toArray rfl rfl 30 zeroOp.cells.toArray (heap_alloc_new _ _) (opRow' x) rfl (opOne x) ?_))
  show Code.wp _ _ _ _ ((W2.alloc (.cells zeroOp.cells.toArray 30)).setRow W2.heap.size x.cells.toArray)
  have hb3 : Below W2.heap.size W2 ((W2.alloc (.cells zeroOp.cells.toArray 30)).setRow W2.heap.size x.cells.toArray) := below_row ((Below.refl _ _).alloc (Nat.le_refl _) _) (Nat.le_refl _) _
  have hx3 : ((W2.alloc (.cells zeroOp.cells.toArray 30)).setRow W2.heap.size x.cells.toArray).heap[W2.heap.size]? = some (.cells x.cells.toArray 30 (0, 0)) := setRow_heap _ _ _ _ _ _ (heap_alloc_new _ _)
  generalize (W2.alloc (.cells zeroOp.cells.toArray 30)).setRow W2.heap.size x.cells.toArray = W3 at hb3 hx3 ⊢
  have HX3 := Lib.hid hx3
  have C3 := Lib.hid (bthen' hb2 hb3)
  clear hb2 hb3 hx3 k0
  have k0 : W3.cell? ⟨w.heap.size + 1, 0, none⟩ = some (.int .i64 o.id) := by simpa using (op_range (kept C3.out HB1.out)) 0 _ rfl
  go_upto_region 3 with (first
    | (go_at_call 32; refine (KRG2.out W3 (S1.out.below C3.out)).mono ?_; rintro e W4 ⟨rfl, hb4⟩)
    | (refine wpList_load_mid rfl 46 _ rfl w.heap.size 0 rfl [.int .i64 keep, .int .i64 next, .slice av L.length cv, .slice ad D.length cd] _ (rt_range (kept C3.out HA1.out)) Try.underlying46 rfl rtRow ?_)
    | (refine wpList_store_row rfl 30 _ _ rfl W4.heap.size x.cells.toArray rfl rfl 30 zeroOp.cells.toArray (heap_alloc_new _ _) (opRow' x) rfl (opOne x) ?_))
  show Code.wp _ _ _ _ ((W4.alloc (.cells zeroOp.cells.toArray 30)).setRow W4.heap.size x.cells.toArray)
  have hb5 : Below W4.heap.size W4 ((W4.alloc (.cells zeroOp.cells.toArray 30)).setRow W4.heap.size x.cells.toArray) := below_row ((Below.refl _ _).alloc (Nat.le_refl _) _) (Nat.le_refl _) _
  have hx5 : ((W4.alloc (.cells zeroOp.cells.toArray 30)).setRow W4.heap.size x.cells.toArray).heap[W4.heap.size]? = some (.cells x.cells.toArray 30 (0, 0)) := setRow_heap _ _ _ _ _ _ (heap_alloc_new _ _)
  generalize (W4.alloc (.cells zeroOp.cells.toArray 30)).setRow W4.heap.size x.cells.toArray = W5 at hb5 hx5 ⊢
  have HX5 := Lib.hid hx5
  have C35 := Lib.hid (bthen' hb4 hb5)
  have C5 := Lib.hid (bthen' C3.out C35.out)
  clear hb4 hb5 hx5 k0
  have k1 : W5.cell? ⟨w.heap.size + 1, 1, none⟩ = some (.int .i64 o.ten) := by simpa using (op_range (kept C5.out HB1.out)) 1 _ rfl
  have ra : W5.rangeAt (w.heap.size + 1) 3 o.acn.cells := by simpa using op_acn (op_range (kept C5.out HB1.out))
  go_upto_region 4 with (first
    | (refine wpList_load_mid rfl 27 _ rfl (w.heap.size + 1) 3 rfl o.acn.cells _ ra Try.underlying27 rfl (acnRow o.acn) ?_)
    | (go_at_call 22; refine (KF2.out W5 (S1.out.below C5.out)).mono ?_; rintro e W6 ⟨rfl, hb6⟩))
  have C56 := Lib.hid hb6
  have C6 := Lib.hid (bthen' C5.out hb6)
  clear hb6 k1 ra
  have k1 : W6.cell? ⟨w.heap.size + 1, 1, none⟩ = some (.int .i64 o.ten) := by simpa using (op_range (kept C6.out HB1.out)) 1 _ rfl
  have ra : W6.rangeAt (w.heap.size + 1) 3 o.acn.cells := by simpa using op_acn (op_range (kept C6.out HB1.out))
  go_upto_region 5 with (first
    | (refine wpList_load_mid rfl 46 _ rfl w.heap.size 0 rfl [.int .i64 keep, .int .i64 next, .slice av L.length cv, .slice ad D.length cd] _ (rt_range (kept C6.out HA1.out)) Try.underlying46 rfl rtRow ?_)
    | (refine wpList_load_mid rfl 27 _ rfl (w.heap.size + 1) 3 rfl o.acn.cells _ ra Try.underlying27 rfl (acnRow o.acn) ?_)
    | (go_at_call 33; refine (KRF2.out W6 (S1.out.below C6.out)).mono ?_; rintro e W7 ⟨rfl, hb7⟩))
  have C7 := Lib.hid (bthen' C6.out hb7)
  have C57 := Lib.hid (bthen' C56.out hb7)
  clear hb7 k1 ra
  have hne : Nonempty (Mix.InS (fun z => Below W7.heap.size W7 z)) := ⟨⟨W7, Below.refl _ _⟩⟩
  have m1 : W7.cell? ⟨w.heap.size, 1, none⟩ = some (.int .i64 next) := cell_of_row W7 _ _ _ _ _ (kept C7.out HA1.out)
  have m2 : W7.cell? ⟨w.heap.size, 2, none⟩ = some (.slice av L.length cv) := cell_of_row W7 _ _ _ _ _ (kept C7.out HA1.out)
  have m3 : W7.cell? ⟨w.heap.size, 3, none⟩ = some (.slice ad D.length cd) := cell_of_row W7 _ _ _ _ _ (kept C7.out HA1.out)
  have d1 := fun (z : Mix.InS (fun z => Below W7.heap.size W7 z)) => below_cell z.h m1
  have d2 := fun (z : Mix.InS (fun z => Below W7.heap.size W7 z)) => below_cell z.h m2
  have d3 := fun (z : Mix.InS (fun z => Below W7.heap.size W7 z)) => below_cell z.h m3
  have R7 := Lib.hid (fun (w' : World) (hx : ∃ x : Mix.InS (fun z => Below W7.heap.size W7 z), w' = x.w) => (show w'.rangeAt W2.heap.size 0 x.cells from by obtain ⟨z, rfl⟩ := hx; exact below_range z.h (op_range (kept C57.out (kept C35.out HX3.out)))))
  have R9 := Lib.hid (fun (w' : World) (hx : ∃ x : Mix.InS (fun z => Below W7.heap.size W7 z), w' = x.w) => (show w'.rangeAt W4.heap.size 0 x.cells from by obtain ⟨z, rfl⟩ := hx; exact below_range z.h (op_range (kept C57.out HX5.out))))
  clear m1 m2 m3
  refine Mix.wp_region_mix [([0, 2, 3], 1), ([], 4), ([5, 6, 8, 9], 7), ([], 10), ([11, 12, 13, 15, 16], 14)] [17, 18, 19, 20, 21, 22, 23, 24, 25, 26, 27, 28, 29, 30, 31, 32, 33, 34, 35, 36, 37, 38, 39, 40] (fun w' => ∃ x : Mix.InS (fun z => Below W7.heap.size W7 z), w' = x.w) (by kernel_rfl) (by kernel_rfl) (Mix.inS_mk (Below.refl _ _).drew) ?_
  have c8 := Lib.hid (show Below W7.heap.size W7 W7.drew from (Below.refl _ _).drew)
  generalize W7.drew = W8 at c8 ⊢
  refine Mix.stages_cons ?_
  simp only [Mix.pickL, List.getElem?_cons_zero, List.getElem?_cons_succ]
  repeat (first
    | go_big_quiet_skip
    | (go_big_quiet_want; first
      | (refine quiet_load_mid 30 _ rfl _ 0 rfl x.cells _ R7.out Try.underlying30 rfl (opRow x) ?_; simp only [Act.put, List.setIfInBounds_toArray, List.set_cons_succ, List.set_cons_zero]; go_big_quiet_on)
      | (refine quiet_load_mid 30 _ rfl _ 0 rfl x.cells _ R9.out Try.underlying30 rfl (opRow x) ?_; simp only [Act.put, List.setIfInBounds_toArray, List.set_cons_succ, List.set_cons_zero]; go_big_quiet_on)
      | (refine quiet_eqlO _ _ _ rfl x x rfl rfl ?_; simp only [decide_true, Act.put, List.setIfInBounds_toArray, List.set_cons_succ, List.set_cons_zero]; go_big_quiet_on)
      | (go_big_quiet_op; go_big_quiet_on)))
  refine wpQuiet_nil ?_
  go_wp2_with (go_at_call 11; refine (KL.out W8 (S1.out.below (bthen' C7.out c8.out))).mono ?_; rintro e W9 ⟨vn, rfl, hb9, hvn⟩)
  have c9 := Lib.hid (bthen' c8.out hb9)
  clear hb9
  obtain ⟨an, cn, rfl⟩ := (hvn.lts opOk).form
  refine Mix.onward_in c9.out ?_
  refine Mix.stages_cons ?_
  simp only [Mix.pickL, List.getElem?_cons_zero, List.getElem?_cons_succ]
  repeat (first
    | go_big_quiet_skip
    | (go_big_quiet_want; first
      | (refine quiet_load_mid 30 _ rfl _ 0 rfl x.cells _ R7.out Try.underlying30 rfl (opRow x) ?_; simp only [Act.put, List.setIfInBounds_toArray, List.set_cons_succ, List.set_cons_zero]; go_big_quiet_on)
      | (refine quiet_load_mid 30 _ rfl _ 0 rfl x.cells _ R9.out Try.underlying30 rfl (opRow x) ?_; simp only [Act.put, List.setIfInBounds_toArray, List.set_cons_succ, List.set_cons_zero]; go_big_quiet_on)
      | (refine quiet_eqlO _ _ _ rfl x x rfl rfl ?_; simp only [decide_true, Act.put, List.setIfInBounds_toArray, List.set_cons_succ, List.set_cons_zero]; go_big_quiet_on)
      | (go_big_quiet_op; go_big_quiet_on)))
  refine wpQuiet_nil ?_
  go_wp2_with (go_at_call 17; refine (KSL.out W9 (S1.out.below (bthen' C7.out c9.out)) _ (hvn.lts opOk)).mono ?_; rintro e W10 ⟨rfl, hb10⟩)
  have c10 := Lib.hid (bthen' c9.out hb10)
  clear hb10
  refine Mix.onward_in c10.out ?_
  clear hvn
  refine Mix.stages_cons ?_
  simp only [Mix.pickL, List.getElem?_cons_zero, List.getElem?_cons_succ]
  repeat (first
    | go_big_quiet_skip
    | (go_big_quiet_want; first
      | (refine quiet_load_mid 30 _ rfl _ 0 rfl x.cells _ R7.out Try.underlying30 rfl (opRow x) ?_; simp only [Act.put, List.setIfInBounds_toArray, List.set_cons_succ, List.set_cons_zero]; go_big_quiet_on)
      | (refine quiet_load_mid 30 _ rfl _ 0 rfl x.cells _ R9.out Try.underlying30 rfl (opRow x) ?_; simp only [Act.put, List.setIfInBounds_toArray, List.set_cons_succ, List.set_cons_zero]; go_big_quiet_on)
      | (refine quiet_eqlO _ _ _ rfl x x rfl rfl ?_; simp only [decide_true, Act.put, List.setIfInBounds_toArray, List.set_cons_succ, List.set_cons_zero]; go_big_quiet_on)
      | (go_big_quiet_op; go_big_quiet_on)))
  refine wpQuiet_nil ?_
  go_wp2_with (go_at_call 10; refine (KE.out W10 (S1.out.below (bthen' C7.out c10.out))).mono ?_; rintro e W11 ⟨vn, rfl, hb11, hvn⟩)
  have c11 := Lib.hid (bthen' c10.out hb11)
  clear hb11
  obtain ⟨an, cn, rfl⟩ := (hvn.lts opOk).form
  refine Mix.onward_in c11.out ?_
  refine Mix.stages_cons ?_
  simp only [Mix.pickL, List.getElem?_cons_zero, List.getElem?_cons_succ]
  repeat (first
    | go_big_quiet_skip
    | (go_big_quiet_want; first
      | (refine quiet_load_mid 30 _ rfl _ 0 rfl x.cells _ R7.out Try.underlying30 rfl (opRow x) ?_; simp only [Act.put, List.setIfInBounds_toArray, List.set_cons_succ, List.set_cons_zero]; go_big_quiet_on)
      | (refine quiet_load_mid 30 _ rfl _ 0 rfl x.cells _ R9.out Try.underlying30 rfl (opRow x) ?_; simp only [Act.put, List.setIfInBounds_toArray, List.set_cons_succ, List.set_cons_zero]; go_big_quiet_on)
      | (refine quiet_eqlO _ _ _ rfl x x rfl rfl ?_; simp only [decide_true, Act.put, List.setIfInBounds_toArray, List.set_cons_succ, List.set_cons_zero]; go_big_quiet_on)
      | (go_big_quiet_op; go_big_quiet_on)))
  refine wpQuiet_nil ?_
  go_wp2_with (go_at_call 17; refine (KSD.out W11 (S1.out.below (bthen' C7.out c11.out)) _ (hvn.lts opOk)).mono ?_; rintro e W12 ⟨rfl, hb12⟩)
  have c12 := Lib.hid (bthen' c11.out hb12)
  clear hb12
  refine Mix.onward_in c12.out ?_
  clear hvn
  refine Mix.stages_cons ?_
  simp only [Mix.pickL, List.getElem?_cons_zero, List.getElem?_cons_succ]
  repeat (first
    | go_big_quiet_skip
    | (go_big_quiet_want; first
      | (refine quiet_load_mid 30 _ rfl _ 0 rfl x.cells _ R7.out Try.underlying30 rfl (opRow x) ?_; simp only [Act.put, List.setIfInBounds_toArray, List.set_cons_succ, List.set_cons_zero]; go_big_quiet_on)
      | (refine quiet_load_mid 30 _ rfl _ 0 rfl x.cells _ R9.out Try.underlying30 rfl (opRow x) ?_; simp only [Act.put, List.setIfInBounds_toArray, List.set_cons_succ, List.set_cons_zero]; go_big_quiet_on)
      | (refine quiet_eqlO _ _ _ rfl x x rfl rfl ?_; simp only [decide_true, Act.put, List.setIfInBounds_toArray, List.set_cons_succ, List.set_cons_zero]; go_big_quiet_on)
      | (go_big_quiet_op; go_big_quiet_on)))
  refine wpQuiet_nil ?_
  go_wp2_with (go_at_call 12; refine (KN.out W12 (S1.out.below (bthen' C7.out c12.out))).mono ?_; rintro e W13 ⟨rfl, rfl⟩)
  refine Mix.onward_in c12.out ?_
  refine Mix.stages_nil ?_
  simp only [Mix.pickL, List.getElem?_cons_zero, List.getElem?_cons_succ]
  repeat (first
    | go_big_quiet_skip
    | (go_big_quiet_want; first
      | (refine quiet_load_mid 30 _ rfl _ 0 rfl x.cells _ R7.out Try.underlying30 rfl (opRow x) ?_; simp only [Act.put, List.setIfInBounds_toArray, List.set_cons_succ, List.set_cons_zero]; go_big_quiet_on)
      | (refine quiet_load_mid 30 _ rfl _ 0 rfl x.cells _ R9.out Try.underlying30 rfl (opRow x) ?_; simp only [Act.put, List.setIfInBounds_toArray, List.set_cons_succ, List.set_cons_zero]; go_big_quiet_on)
      | (refine quiet_eqlO _ _ _ rfl x x rfl rfl ?_; simp only [decide_true, Act.put, List.setIfInBounds_toArray, List.set_cons_succ, List.set_cons_zero]; go_big_quiet_on)
      | (go_big_quiet_op; go_big_quiet_on)))
  refine wpQuiet_nil ?_
  go_wp2_with fail
  go_ret
  exact ⟨rfl, bthen' HW1.out (bthen' C7.out c12.out)⟩
end Go.Proofs.Ytddmajgadaooaaa
