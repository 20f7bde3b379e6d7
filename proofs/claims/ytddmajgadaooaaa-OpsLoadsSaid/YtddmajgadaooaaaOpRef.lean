/- The document's place of a number, operation of a number, flight. -/
import Derived.Test.YtddmajgadaooaaaOpT
import Derived.Test.YtddmajgadaooaaaOpSame
set_option linter.unusedVariables false
namespace Go.Proofs.Ytddmajgadaooaaa
open Go.RowKit

def placeN (L : List OpV) (i : Int) : Option Nat := L.findIdx? fun x => decide (x.id = i)
def placeI (L : List OpV) (i : Int) : Int := match placeN L i with | some k => k | none => -1
theorem place_none {L : List OpV} {i : Int} (h : ∀ x ∈ L, x.id ≠ i) : placeN L i = none := by
  unfold placeN
  rw [List.findIdx?_eq_none_iff]
  exact fun x hx => decide_eq_false (h x hx)
theorem place_some {L : List OpV} {i : Int} {k : Nat} {x : OpV} (h : ∀ y ∈ L.take k, y.id ≠ i) (hx : L[k]? = some x) (hi : x.id = i) : placeN L i = some k := by
  unfold placeN
  obtain ⟨hk, he⟩ := List.getElem?_eq_some_iff.1 hx
  rw [List.findIdx?_eq_some_iff_getElem]
  refine ⟨hk, by rw [he]; exact decide_eq_true hi, fun j hj => ?_⟩
  have hm : L[j]'(by omega) ∈ L.take k := by
    rw [List.mem_take_iff_getElem]
    exact ⟨j, by omega, rfl⟩
  simpa using h _ hm
theorem place_got {L : List OpV} {i : Int} {k : Nat} (h : placeN L i = some k) : ∃ x, L[k]? = some x ∧ x.id = i ∧ got L i = some x ∧ k < L.length := by
  unfold placeN at h
  rw [List.findIdx?_eq_some_iff_getElem] at h
  obtain ⟨hk, h1, h2⟩ := h
  refine ⟨L[k], List.getElem?_eq_getElem hk, of_decide_eq_true h1, ?_, hk⟩
  unfold got
  rw [List.find?_eq_some_iff_getElem]
  exact ⟨h1, k, hk, rfl, fun j hj => by simpa using h2 j hj⟩
theorem place_got_none {L : List OpV} {i : Int} : placeN L i = none ↔ got L i = none := by
  rw [got_none]
  refine ⟨fun h x hx => ?_, place_none⟩
  unfold placeN at h
  rw [List.findIdx?_eq_none_iff] at h
  exact of_decide_eq_false (h x hx)

set_option maxRecDepth 100000 in
set_option maxHeartbeats 1000000 in
theorem place_any (w : World) (v : Value) (L : List OpV) (i : Int) (hv : Reads opR w v L) (hbig : L.length ≤ 1000000) :
    Calls Try.prog 31 #[v, .int .i64 i] w fun e w' => e = .returned (.int .i64 (placeI L i)) ∧ w = w' := by
  obtain ⟨av, cv, rfl⟩ := hv.form
  have HV := Lib.hid hv
  clear hv
  go_enter Try.func31, Try.ntmps31
  go_wp2_with fail
  go_loopw [5] (fun j wr => ∃ k : Nat, k ≤ L.length ∧ j = .int .i64 k ∧ wr = w ∧ Hid (∀ y ∈ L.take k, y.id ≠ i)) (fun j _ => L.length - (intOf j).toNat)
  case atStart => exact ⟨0, by omega, rfl, rfl, Lib.hid (by simp)⟩
  case round =>
    obtain ⟨k, hk, rfl, rfl, hE⟩ := hrel
    by_cases hlt : k < L.length
    · obtain ⟨x, hx⟩ : ∃ x, L[k]? = some x := ⟨_, List.getElem?_eq_getElem hlt⟩
      obtain ⟨b1, o1, rfl, r1⟩ := HV.out.at hx
      have HX := Lib.hid hx
      have c0 : wr.cell? ⟨b1, o1 + k * 18, none⟩ = some (.int .i64 x.id) := by have := r1 0 _ rfl; simpa [opR] using this
      clear hx r1
      by_cases hxi : x.id = i
      · have hxb : (x.id == i) = true := by simp [hxi]
        have HP := Lib.hid (show placeI L i = k from by unfold placeI; rw [place_some hE.out HX.out hxi])
        clear hxi hE
        go_wp2_with fail
        go_ret
        exact ⟨by rw [HP.out]; rfl, by first | rfl | trivial⟩
      · have hxb : (x.id == i) = false := by simp [hxi]
        have HE2 : Hid (∀ y ∈ L.take (k + 1), y.id ≠ i) := Lib.hid (by
          rw [← take_snoc HX.out]
          intro y hy
          rcases List.mem_append.1 hy with hy | hy
          · exact hE.out y hy
          · simp at hy; subst hy; exact hxi)
        clear hxi
        go_wp2_with fail
        go_roundw
        case rel => exact ⟨k + 1, by omega, by go_num, trivial, HE2⟩
        case measure => simp [intOf]; omega
    · obtain rfl : k = L.length := by omega
      have HP := Lib.hid (show placeI L i = -1 from by unfold placeI; rw [place_none (by have := hE.out; rwa [List.take_length] at this)])
      clear hE
      go_wp2_with fail
      go_ret
      exact ⟨by rw [HP.out]; rfl, by first | rfl | trivial⟩

theorem acn_eql (x y : Acn) (w : World) : (binOp BinOp.eql 27 (.agg x.cells.toArray) (.agg y.cells.toArray)).run Try.prog w = .ok (.bool (decide (x = y))) w := by
  have h := acn_eq 9998 x y w
  rw [run_eql_struct]
  rw [show (Op.equalIn 10000 27 (.agg x.cells.toArray) (.agg y.cells.toArray)).run Try.prog w = .ok (decide (x = y)) w from h]
  rfl
theorem acn_gd (op : BinOp) (a b : Operand) (x y : Acn) (w : World) : (eqGuard op 27 a b (.agg x.cells.toArray) (.agg y.cells.toArray)).run Try.prog w = .ok () w := run_eqGuard_agg w op _ a b _ _ (by kernel_rfl)
theorem quiet_eqlA {C : World → Prop} {K : Act → Prop} {a : Act} {o : Oper} (p q : Operand) (ty : TypeId) (ho : o.op = .binOp .eql 27 p q ty) (x y : Acn) (hp : a.eval p = .agg x.cells.toArray) (hq : a.eval q = .agg y.cells.toArray)
    (h : K (a.put o.dst (.bool (decide (x = y))))) : o.quiet Try.prog a C K :=
  ⟨.bool (decide (x = y)), fun w hw => by
    unfold Oper.quietAt execOp
    simp only [ho, hp, hq, Sem.run_bind, acn_gd, acn_eql, Result.andThen_ok, Sem.run_pure]
    exact ⟨rfl, rfl⟩, h⟩

set_option maxRecDepth 100000 in
set_option maxHeartbeats 2000000 in
theorem rget_any (w : World) (keep next : Int) (vl ve : Value) (L D : List OpV) (i : Int) (hv : Reads opR w vl L) (hd : Reads opR w ve D) (hL : L.length ≤ 100000) (hD : D.length ≤ 100000) :
    Calls Try.prog 32 #[.agg #[.int .i64 keep, .int .i64 next, vl, ve], .int .i64 i] w fun e w' => e = .returned (.tuple #[opR.val ((got (L ++ D) i).getD zeroOp), .bool (got (L ++ D) i).isSome]) ∧ Below w.heap.size w w' := by
  obtain ⟨av, cv, rfl⟩ := hv.form
  obtain ⟨ad, cd, rfl⟩ := hd.form
  have hbx := two_boxes (w := w) (A := .cells #[.int .i64 keep, .int .i64 next, .slice av L.length cv, .slice ad D.length cd] 46) (B := .cells zeroOp.cells.toArray 30) (Below.refl _ _)
  obtain ⟨W1, hW1⟩ : ∃ W1, W1 = (w.alloc (.cells #[.int .i64 keep, .int .i64 next, .slice av L.length cv, .slice ad D.length cd] 46)).alloc (.cells zeroOp.cells.toArray 30) := ⟨_, rfl⟩
  rw [← hW1] at hbx
  obtain ⟨hA, hB, hb1, hs1⟩ := hbx
  have k2 : W1.cell? ⟨w.heap.size, 2, none⟩ = some (.slice av L.length cv) := cell_of_row W1 _ _ _ _ _ hA
  have k3 : W1.cell? ⟨w.heap.size, 3, none⟩ = some (.slice ad D.length cd) := cell_of_row W1 _ _ _ _ _ hA
  have HB := Lib.hid hB
  have HB1 := Lib.hid hb1
  have HV := Lib.hid (hv.below hb1)
  have HD := Lib.hid (hd.below hb1)
  clear hA hB hv hd hs1
  cases hp : placeN L i with
  | some k =>
    obtain ⟨x, hx, hxi, hg, hk⟩ := place_got hp
    have eg : got (L ++ D) i = some x := by rw [got_app, hg]; rfl
    rw [eg]
    have kp := place_any W1 _ L i HV.out (by omega)
    rw [show placeI L i = k from by unfold placeI; rw [hp]] at kp
    have KP := Lib.hid kp
    obtain ⟨b, off, rfl, r⟩ := HV.out.at hx
    clear kp hp hx hxi hg eg
    go_enter Try.func32, Try.ntmps32
    go_upto_region 1 with fail
    show Code.wp _ _ _ _ ((w.alloc (.cells #[.int .i64 keep, .int .i64 next, .slice _ L.length cv, .slice ad D.length cd] 46)).alloc (.cells zeroOp.cells.toArray 30))
    rw [← hW1]
    clear hW1 hb1
    go_wp2_with (first
      | (go_at_call 31; refine KP.out.mono ?_; rintro e w' ⟨rfl, rfl⟩)
      | (refine wpList_load_mid rfl 30 _ rfl b (off + k * opR.n) rfl x.cells _ r Try.underlying30 rfl (opRow x) ?_)
      | (refine wpList_store_row rfl 30 _ _ rfl (w.heap.size + 1) x.cells.toArray rfl rfl 30 zeroOp.cells.toArray HB.out (opRow' x) rfl (opOne x) ?_))
    exact bodyPost_ret (results_row_tmp rfl _ _ (w.heap.size + 1) x.cells _ rfl (op_range (setRow_heap _ _ _ _ _ _ HB.out)) Try.underlying30 rfl (opRow x)) rfl ⟨rfl, below_row HB1.out (Nat.le_succ _) _⟩
  | none =>
    have hgn := place_got_none.1 hp
    have kp := place_any W1 _ L i HV.out (by omega)
    rw [show placeI L i = -1 from by unfold placeI; rw [hp]] at kp
    have KP := Lib.hid kp
    have eg : got (L ++ D) i = got D i := by rw [got_app, hgn]; rfl
    rw [eg]
    clear hp kp hgn eg
    cases hp2 : placeN D i with
    | some k =>
      obtain ⟨x, hx, hxi, hg, hk⟩ := place_got hp2
      rw [hg]
      have kp := place_any W1 _ D i HD.out (by omega)
      rw [show placeI D i = k from by unfold placeI; rw [hp2]] at kp
      have KP2 := Lib.hid kp
      obtain ⟨b, off, rfl, r⟩ := HD.out.at hx
      clear kp hp2 hx hxi hg
      go_enter Try.func32, Try.ntmps32
      go_upto_region 1 with fail
      show Code.wp _ _ _ _ ((w.alloc (.cells #[.int .i64 keep, .int .i64 next, .slice av L.length cv, .slice _ D.length cd] 46)).alloc (.cells zeroOp.cells.toArray 30))
      rw [← hW1]
      clear hW1 hb1
      go_upto_region 4 with (go_at_call 31; refine KP.out.mono ?_; rintro e w' ⟨rfl, rfl⟩)
      go_wp2_with (first
        | (go_at_call 31; refine KP2.out.mono ?_; rintro e w' ⟨rfl, rfl⟩)
        | (refine wpList_load_mid rfl 30 _ rfl b (off + k * opR.n) rfl x.cells _ r Try.underlying30 rfl (opRow x) ?_)
        | (refine wpList_store_row rfl 30 _ _ rfl (w.heap.size + 1) x.cells.toArray rfl rfl 30 zeroOp.cells.toArray HB.out (opRow' x) rfl (opOne x) ?_))
      exact bodyPost_ret (results_row_tmp rfl _ _ (w.heap.size + 1) x.cells _ rfl (op_range (setRow_heap _ _ _ _ _ _ HB.out)) Try.underlying30 rfl (opRow x)) rfl ⟨rfl, below_row HB1.out (Nat.le_succ _) _⟩
    | none =>
      rw [place_got_none.1 hp2]
      have kp := place_any W1 _ D i HD.out (by omega)
      rw [show placeI D i = -1 from by unfold placeI; rw [hp2]] at kp
      have KP2 := Lib.hid kp
      clear kp hp2
      go_enter Try.func32, Try.ntmps32
      go_upto_region 1 with fail
      show Code.wp _ _ _ _ ((w.alloc (.cells #[.int .i64 keep, .int .i64 next, .slice av L.length cv, .slice ad D.length cd] 46)).alloc (.cells zeroOp.cells.toArray 30))
      rw [← hW1]
      clear hW1 hb1
      go_upto_region 4 with (go_at_call 31; refine KP.out.mono ?_; rintro e w' ⟨rfl, rfl⟩)
      go_wp2_with (first
        | (go_at_call 31; refine KP2.out.mono ?_; rintro e w' ⟨rfl, rfl⟩)
        | (refine wpList_store_row rfl 30 _ _ rfl (w.heap.size + 1) zeroOp.cells.toArray rfl rfl 30 zeroOp.cells.toArray HB.out (opRow' zeroOp) rfl (opOne zeroOp) ?_))
      exact bodyPost_ret (results_row_tmp rfl _ _ (w.heap.size + 1) zeroOp.cells _ rfl (op_range (setRow_heap _ _ _ _ _ _ HB.out)) Try.underlying30 rfl (opRow zeroOp)) rfl ⟨rfl, below_row HB1.out (Nat.le_succ _) _⟩
end Go.Proofs.Ytddmajgadaooaaa
