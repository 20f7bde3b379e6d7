/- The contracts of dead's functions. -/
import Derived.Test.YtchkbbkcflmcmaaDeadLaw
set_option linter.unusedVariables false
namespace Go.Proofs.Ytchkbbkcflmcmaa
open Go.RowKit

set_option maxRecDepth 100000 in
set_option maxHeartbeats 1000000 in
theorem get_any (w : World) (p g room fst n : Nat) (R : Nat → Option Let) (h : BoxRaw w p g room fst n R) (r2 : fst < room) (i : Nat) (hi : i ≤ room) :
    Calls Try.prog 16 #[.pointer (some ⟨p, 0, none⟩), .int .i64 i] w fun e w' => e = .returned (.pointer (some ⟨g, ((fst + i) % room) * 6, none⟩)) ∧ Below w.heap.size w w' := by
  have d0 := fun (x : Later w) => x.cell h.c0
  have d1 := fun (x : Later w) => x.cell h.c1
  have r0 := h.room0
  have r1 := h.room1
  have m0 : (0 : Int) ≤ ((fst : Int) + (i : Int)) % (room : Int) := by rw [← Int.natCast_add, ← Int.natCast_emod]; omega
  have m1 : ((fst : Int) + (i : Int)) % (room : Int) < (room : Int) := by
    have := Nat.mod_lt (fst + i) r0
    rw [← Int.natCast_add, ← Int.natCast_emod]; omega
  have m2 : (((fst : Int) + (i : Int)) % (room : Int)).toNat = (fst + i) % room := by rw [← Int.natCast_add, ← Int.natCast_emod, Int.toNat_natCast]
  have m3 : ((room : Int) == 0) = false := by simp; omega
  clear h
  go_enter Try.func16, Try.ntmps16
  go_wp2_with fail
  refine wp_region_later (by kernel_rfl) (by kernel_rfl) (Below.refl _ _) ?_
  repeat (first
    | go_big_quiet_skip
    | (go_big_quiet_want; (go_big_quiet_op; go_big_quiet_on)))
  refine wpQuiet_nil ?_
  rintro ⟨W2, hb2⟩
  dsimp only
  go_wp2_with fail
  go_ret
  exact ⟨rfl, hb2⟩


theorem get_at (w : World) (p g room fst n : Nat) (R : Nat → Option Let) (h : BoxRaw w p g room fst n R) (r2 : fst < room) (i : Int) (hi0 : 0 ≤ i) (hi : i ≤ room) (o : Nat) (ho : ((fst + i.toNat) % room) * 6 = o) :
    Calls Try.prog 16 #[.pointer (some ⟨p, 0, none⟩), .int .i64 i] w fun e w' => e = .returned (.pointer (some ⟨g, o, none⟩)) ∧ Below w.heap.size w w' := by
  obtain ⟨k, rfl⟩ := Int.eq_ofNat_of_zero_le hi0
  subst ho
  rw [Int.toNat_natCast]
  exact get_any w p g room fst n R h r2 k (by omega)

theorem get_off (w : World) (p g room fst n : Nat) (R : Nat → Option Let) (h : BoxRaw w p g room fst n R) (r2 : fst < room) (k : Nat) (hi : k ≤ room) (o : Nat) (ho : ((fst + k) % room) * 6 = o) :
    Calls Try.prog 16 #[.pointer (some ⟨p, 0, none⟩), .int .i64 k] w fun e w' => e = .returned (.pointer (some ⟨g, o, none⟩)) ∧ Below w.heap.size w w' := by
  subst ho
  exact get_any w p g room fst n R h r2 k hi

theorem there_row {w : World} {b : Nat} {C : Array Value} {t : TypeId} (h : w.heap[b]? = some (.cells C t (0, 0))) (n : Nat) (hn : n ≤ C.size) : w.there b 0 n := by
  intro j hj
  refine ⟨?_, by simp [World.frozen?, h]⟩
  rw [cell_of_row w b (0 + j) C t (0, 0) h]
  simp; omega

/-- A call that returns a row out of a block of its own, and one thing more. -/
theorem results_row_tmp {P : Program} {fn : Func} {p q : Tmp} {ty : TypeId} (h : fn.results = #[.cell p ty, .tmp q]) (tmps : Array Value) (w : World) (g : Nat) (cs : List Value) (d : TypeDesc)
    (hp : tmps.getD p undef = .pointer (some ⟨g, 0, none⟩)) (hg : w.rangeAt g 0 cs) (hu : P.underlying ty = some d) (hd : d.isRow = true) (hi : (P.info? ty).map (·.size) = some cs.length) :
    (results fn tmps).run P w = .ok (.tuple #[.agg cs.toArray, tmps.getD q undef]) w := by
  have hp' : tmps[p]?.getD undef = .pointer (some ⟨g, 0, none⟩) := by simpa using hp
  simp [results, h, hp', asAddr, run_loadVar_mid w g 0 ty cs d hg hu hd hi]

theorem let_size (x : Let) : x.cells.toArray.size = 6 := rfl
theorem let_size' (x : Let) : (Try.prog.info? 29).map (·.size) = some x.cells.toArray.size := letRow x
theorem let_one' (x : Let) : x.cells.toArray.all (·.oneCell') = true := all_oneCell_toArray (let_one x)
theorem row_range {w : World} {b : Nat} {x : Let} {t : TypeId} (h : w.heap[b]? = some (.cells x.cells.toArray t (0, 0))) : w.rangeAt b 0 x.cells := fun j v hv => by
  rw [cell_of_row w b (0 + j) _ t (0, 0) h]
  simpa using hv

set_option maxRecDepth 100000 in
set_option maxHeartbeats 1000000 in
theorem put_room (w : World) (p g room fst : Nat) (L : List Let) (h : BoxAt w p g room fst L) (x : Let) (hn : L.length < room) :
    Calls Try.prog 7 #[.pointer (some ⟨p, 0, none⟩), .agg x.cells.toArray] w fun e w' => e = .returned (.tuple #[.agg zeroLet.cells.toArray, .bool false]) ∧ Upd [p, g] w w' ∧ BoxAt w' p g room fst (L ++ [x]) := by
  obtain ⟨hf, hl, R, hB, hR⟩ := h
  have hR2 := Lib.hid (hR.put hf hn x)
  clear hR
  have r1 := hB.room1
  have hs : (fst + L.length) % room < room := Nat.mod_lt _ (by omega)
  go_enter Try.func7, Try.ntmps7
  go_wp2_with fail
  have hU : Upd [p, g] w ((w.alloc (.cells x.cells.toArray 29)).alloc (.cells zeroLet.cells.toArray 29)) := ((Upd.refl _ _).alloc _).alloc _
  have hX : ((w.alloc (.cells x.cells.toArray 29)).alloc (.cells zeroLet.cells.toArray 29)).heap[w.heap.size]? = some (.cells x.cells.toArray 29 (0, 0)) := by
    rw [Below.heap_alloc _ _ _ (by simp)]; exact heap_alloc_new _ _
  have hZ : ((w.alloc (.cells x.cells.toArray 29)).alloc (.cells zeroLet.cells.toArray 29)).heap[w.heap.size + 1]? = some (.cells zeroLet.cells.toArray 29 (0, 0)) := by
    have := heap_alloc_new (w.alloc (.cells x.cells.toArray 29)) (.cells zeroLet.cells.toArray 29)
    simpa using this
  have hB1 : BoxRaw ((w.alloc (.cells x.cells.toArray 29)).alloc (.cells zeroLet.cells.toArray 29)) p g room fst L.length R := (hB.upd ((Upd.refl [] _).alloc _) (by simp) (by simp)).upd ((Upd.refl [] _).alloc _) (by simp) (by simp)
  have hpl : p < w.heap.size := World.block_lt_of_cell? w _ hB.c1
  have hgl : g < w.heap.size := by
    obtain ⟨u, hu⟩ := Option.isSome_iff_exists.1 (hB.th 0 hB.room0 0 (by omega)).1
    exact World.block_lt_of_cell? w _ hu
  clear hB
  show Code.wp _ _ _ _ ((w.alloc (.cells x.cells.toArray 29)).alloc (.cells zeroLet.cells.toArray 29))
  generalize (w.alloc (.cells x.cells.toArray 29)).alloc (.cells zeroLet.cells.toArray 29) = W0 at hU hX hZ hB1 ⊢
  have d0 := fun (x : Later W0) => x.cell hB1.c0
  have d2 := fun (x : Later W0) => x.cell hB1.c2
  have HB := Lib.hid hB1
  have HU := Lib.hid hU
  clear hB1 hU
  refine wp_region_later (by kernel_rfl) (by kernel_rfl) (Below.refl _ _) ?_
  repeat (first
    | go_big_quiet_skip
    | (go_big_quiet_want; (go_big_quiet_op; go_big_quiet_on)))
  refine wpQuiet_nil ?_
  rintro ⟨W1, hb1⟩
  dsimp only
  clear d0 d2
  have HB1 := Lib.hid (HB.out.below hb1)
  have HU1 := Lib.hid (HU.out.trans (Upd.ofBelow _ hb1))
  have hX1 := (Upd.ofBelow [] hb1).heap (by simp) hX
  have hZ1 := (Upd.ofBelow [] hb1).heap (by simp) hZ
  clear HB HU hX hZ hb1
  go_wp2_with fail
  have d2 := fun (x : Later W1) => x.cell HB1.out.c2
  have HX := Lib.hid (fun (w' : World) (hx : ∃ x : Later W1, w' = x.w) => (show w'.heap[w.heap.size]? = some (.cells x.cells.toArray 29 (0, 0)) from by obtain ⟨x, rfl⟩ := hx; exact x.block hX1))
  refine wp_region_later_tail 8 (by kernel_rfl) (by kernel_rfl) (Below.refl _ _) ?_
  simp only [List.take_succ_cons, List.take_zero, List.drop_succ_cons, List.drop_zero]
  repeat (first
    | go_big_quiet_skip
    | (go_big_quiet_want; first
      | (refine quiet_load_row 29 _ rfl w.heap.size rfl 29 x.cells.toArray (0, 0) _ HX.out Try.underlying29 rfl (let_size' x) ?_; simp only [Act.put, List.setIfInBounds_toArray, List.set_cons_succ, List.set_cons_zero]; go_big_quiet_on)
      | (go_big_quiet_op; first | go_big_quiet_on | go_big_quiet_call ((go_at_call 16; exact Calls.later (get_at _ p g room fst L.length R (HB1.out.below (Later.h _)) hf _ (by omega) (by omega) _ rfl))))))
  refine wpQuiet_nil ?_
  rintro ⟨W2, hb2⟩
  dsimp only
  have HB2 := Lib.hid (HB1.out.below hb2)
  have HU2 := Lib.hid (HU1.out.trans (Upd.ofBelow _ hb2))
  have hZ2 := (Upd.ofBelow [] hb2).heap (by simp) hZ1
  clear HB1 HU1 hX1 HX d2 hZ1 hb2
  refine wpList_store_mid rfl 29 _ _ rfl g ((fst + L.length) % room * 6) x.cells.toArray rfl rfl (HB2.out.th _ hs) (let_size' x) (let_one' x) ?_
  simp only [Act.put]
  have HB3 := Lib.hid (HB2.out.ring hs x)
  have HU3 := Lib.hid (HU2.out.setCells (b := g) (by simp) ((fst + L.length) % room * 6) x.cells)
  have hZ3 := ((Upd.refl [g] W2).setCells (b := g) (by simp) ((fst + L.length) % room * 6) x.cells).heap (by simp; omega) hZ2
  generalize W2.setCells g ((fst + L.length) % room * 6) x.cells = W3 at HB3 HU3 hZ3 ⊢
  clear HB2 HU2 hZ2
  have c2 := HB3.out.c2
  have f2 := HB3.out.f2
  go_wp2_with (refine wpList_store_mid rfl 29 _ _ rfl (w.heap.size + 1) 0 zeroLet.cells.toArray rfl rfl (there_row (((Upd.refl [p] _).setCell (by simp) _).heap (by simp; omega) hZ3) 6 (Nat.le_refl _)) (let_size' _) (let_one' _) ?_)
  have hn2 : ((L.length : Int) + 1) = ((L ++ [x]).length : Nat) := by simp
  rw [hn2]
  have HB4 := HB3.out.count (L ++ [x]).length
  have HU4 := HU3.out.setCell (p := ⟨p, 2, none⟩) (by simp) (.int .i64 ((L ++ [x]).length : Nat))
  have hZ4 := ((Upd.refl [p] W3).setCell (p := ⟨p, 2, none⟩) (by simp) (.int .i64 ((L ++ [x]).length : Nat))).heap (by simp; omega) hZ3
  generalize W3.setCell ⟨p, 2, none⟩ (.int .i64 ((L ++ [x]).length : Nat)) = W4 at HB4 HU4 hZ4 ⊢
  have hU5 := ((Upd.refl [w.heap.size + 1] W4).setCells (b := w.heap.size + 1) (by simp) 0 zeroLet.cells)
  refine bodyPost_ret (results_row_tmp rfl _ _ (w.heap.size + 1) zeroLet.cells _ rfl (World.rangeAt_setCells_same _ _ _ _ (there_row hZ4 6 (Nat.le_refl _))) Try.underlying29 rfl (letRow _)) rfl ⟨rfl, ?_, hf, by simp; omega, _, ?_, hR2.out⟩
  · exact HU4.transG hU5 (by simp)
  · exact HB4.upd hU5 (by simp; omega) (by simp; omega)


set_option maxRecDepth 100000 in
set_option maxHeartbeats 1000000 in
theorem put_full (w : World) (p g room fst : Nat) (L : List Let) (h : BoxAt w p g room fst L) (x y : Let) (hn : L.length = room) (hy : L[0]? = some y) :
    Calls Try.prog 7 #[.pointer (some ⟨p, 0, none⟩), .agg x.cells.toArray] w fun e w' => e = .returned (.tuple #[.agg y.cells.toArray, .bool true]) ∧ Upd [p, g] w w' ∧ BoxAt w' p g room ((fst + 1) % room) (L.tail ++ [x]) := by
  obtain ⟨hf, hl, R, hB, hR⟩ := h
  have hR2 := Lib.hid (hR.turn hf hn x)
  have hy0 := hR 0 y hy
  have e0 : (fst + 0) % room = fst := by rw [Nat.add_zero, Nat.mod_eq_of_lt hf]
  rw [e0] at hy0
  have HY := Lib.hid hy0
  have E0 := Lib.hid e0
  clear hR hy hy0 e0
  have r1 := hB.room1
  have r0 := hB.room0
  have m0 : (0 : Int) ≤ ((fst : Int) + 1) % (room : Int) := by rw [show ((fst : Int) + 1) = ((fst + 1 : Nat) : Int) from rfl, ← Int.natCast_emod]; omega
  have m1 : ((fst : Int) + 1) % (room : Int) < (room : Int) := by
    have := Nat.mod_lt (fst + 1) r0
    rw [show ((fst : Int) + 1) = ((fst + 1 : Nat) : Int) from rfl, ← Int.natCast_emod]; omega
  have m2 := Lib.hid (show ((fst : Int) + 1) % (room : Int) = (((fst + 1) % room : Nat) : Int) by rw [show ((fst : Int) + 1) = ((fst + 1 : Nat) : Int) from rfl, ← Int.natCast_emod])
  have m3 : ((room : Int) == 0) = false := by simp; omega
  go_enter Try.func7, Try.ntmps7
  go_wp2_with fail
  have hU : Upd [p, g] w ((w.alloc (.cells x.cells.toArray 29)).alloc (.cells zeroLet.cells.toArray 29)) := ((Upd.refl _ _).alloc _).alloc _
  have hX : ((w.alloc (.cells x.cells.toArray 29)).alloc (.cells zeroLet.cells.toArray 29)).heap[w.heap.size]? = some (.cells x.cells.toArray 29 (0, 0)) := by
    rw [Below.heap_alloc _ _ _ (by simp)]; exact heap_alloc_new _ _
  have hZ : ((w.alloc (.cells x.cells.toArray 29)).alloc (.cells zeroLet.cells.toArray 29)).heap[w.heap.size + 1]? = some (.cells zeroLet.cells.toArray 29 (0, 0)) := by
    have := heap_alloc_new (w.alloc (.cells x.cells.toArray 29)) (.cells zeroLet.cells.toArray 29)
    simpa using this
  have hB1 : BoxRaw ((w.alloc (.cells x.cells.toArray 29)).alloc (.cells zeroLet.cells.toArray 29)) p g room fst L.length R := (hB.upd ((Upd.refl [] _).alloc _) (by simp) (by simp)).upd ((Upd.refl [] _).alloc _) (by simp) (by simp)
  have hpl : p < w.heap.size := World.block_lt_of_cell? w _ hB.c1
  have hgl : g < w.heap.size := by
    obtain ⟨u, hu⟩ := Option.isSome_iff_exists.1 (hB.th 0 hB.room0 0 (by omega)).1
    exact World.block_lt_of_cell? w _ hu
  clear hB
  show Code.wp _ _ _ _ ((w.alloc (.cells x.cells.toArray 29)).alloc (.cells zeroLet.cells.toArray 29))
  generalize (w.alloc (.cells x.cells.toArray 29)).alloc (.cells zeroLet.cells.toArray 29) = W0 at hU hX hZ hB1 ⊢
  have d0 := fun (x : Later W0) => x.cell hB1.c0
  have d2 := fun (x : Later W0) => x.cell hB1.c2
  have HB := Lib.hid hB1
  have HU := Lib.hid hU
  clear hB1 hU
  refine wp_region_later (by kernel_rfl) (by kernel_rfl) (Below.refl _ _) ?_
  repeat (first
    | go_big_quiet_skip
    | (go_big_quiet_want; (go_big_quiet_op; go_big_quiet_on)))
  refine wpQuiet_nil ?_
  rintro ⟨W1, hb1⟩
  dsimp only
  clear d0 d2
  have HB1 := Lib.hid (HB.out.below hb1)
  have HU1 := Lib.hid (HU.out.trans (Upd.ofBelow _ hb1))
  have hX1 := (Upd.ofBelow [] hb1).heap (by simp) hX
  have hZ1 := (Upd.ofBelow [] hb1).heap (by simp) hZ
  clear HB HU hX hZ hb1
  go_wp2_with (first
    | (go_at_call 16; refine (get_at _ p g room fst L.length R HB1.out hf _ (by omega) (by omega) _ (by rw [show (0 : Int).toNat = 0 from rfl, E0.out])).mono ?_; rintro e W2 ⟨rfl, hb2⟩)
    | (refine wpList_load_mid rfl 29 _ rfl g (fst * 6) rfl y.cells _ ((HB1.out.below hb2).rg fst y HY.out) Try.underlying29 rfl (letRow y) ?_)
    | (refine wpList_store_mid rfl 29 _ _ rfl W2.heap.size 0 y.cells.toArray rfl rfl (there_row (heap_alloc_new W2 (.cells zeroLet.cells.toArray 29)) 6 (Nat.le_refl _)) (let_size' _) (let_one' _) ?_))
  have HB2 := Lib.hid (HB1.out.below hb2)
  have HU2 := Lib.hid (HU1.out.trans (Upd.ofBelow _ hb2))
  have hX2 := (Upd.ofBelow [] hb2).heap (by simp) hX1
  have hZ2 := (Upd.ofBelow [] hb2).heap (by simp) hZ1
  have hs2 := hb2.size
  have hs1 := (Array.getElem?_eq_some_iff.1 hZ1).1
  clear HB1 HU1 hX1 hZ1 hb2
  have hV : Upd [W2.heap.size] W2 ((W2.alloc (.cells zeroLet.cells.toArray 29)).setCells W2.heap.size 0 y.cells) := ((Upd.refl _ _).alloc _).setCells (by simp) _ _
  have hy3 : ((W2.alloc (.cells zeroLet.cells.toArray 29)).setCells W2.heap.size 0 y.cells).rangeAt W2.heap.size 0 y.cells := World.rangeAt_setCells_same _ _ _ _ (there_row (heap_alloc_new W2 (.cells zeroLet.cells.toArray 29)) 6 (Nat.le_refl _))
  show Code.wp _ _ _ (Act.put _ none undef) ((W2.alloc (.cells zeroLet.cells.toArray 29)).setCells W2.heap.size 0 y.cells)
  simp only [Act.put]
  generalize (W2.alloc (.cells zeroLet.cells.toArray 29)).setCells W2.heap.size 0 y.cells = W3 at hV hy3 ⊢
  have HB3 := Lib.hid (HB2.out.upd hV (by simp; omega) (by simp; omega))
  have HU3 := Lib.hid (HU2.out.transG hV (by simp; omega))
  have hX3 := hV.heap (by simp; omega) hX2
  have hZ3 := hV.heap (by simp; omega) hZ2
  generalize hg2 : W2.heap.size = g2 at *
  clear HB2 HU2 hX2 hZ2 hV
  have HX := Lib.hid (fun (w' : World) (hx : ∃ x : Later W3, w' = x.w) => (show w'.heap[w.heap.size]? = some (.cells x.cells.toArray 29 (0, 0)) from by obtain ⟨x, rfl⟩ := hx; exact x.block hX3))
  refine wp_region_later_tail 4 (by kernel_rfl) (by kernel_rfl) (Below.refl _ _) ?_
  simp only [List.take_succ_cons, List.take_zero, List.drop_succ_cons, List.drop_zero]
  repeat (first
    | go_big_quiet_skip
    | (go_big_quiet_want; first
      | (refine quiet_load_row 29 _ rfl w.heap.size rfl 29 x.cells.toArray (0, 0) _ HX.out Try.underlying29 rfl (let_size' x) ?_; simp only [Act.put, List.setIfInBounds_toArray, List.set_cons_succ, List.set_cons_zero]; go_big_quiet_on)
      | (go_big_quiet_op; first | go_big_quiet_on | go_big_quiet_call ((go_at_call 16; exact Calls.later (get_at _ p g room fst L.length R (HB3.out.below (Later.h _)) hf _ (by omega) (by omega) (fst * 6) (by rw [show (0 : Int).toNat = 0 from rfl, E0.out])))))))
  refine wpQuiet_nil ?_
  rintro ⟨W4, hb4⟩
  dsimp only
  have HB4 := Lib.hid (HB3.out.below hb4)
  have HU4 := Lib.hid (HU3.out.trans (Upd.ofBelow _ hb4))
  have hZ4 := (Upd.ofBelow [] hb4).heap (by simp) hZ3
  have hy4 := below_range hb4 hy3
  clear HB3 HU3 hX3 hZ3 HX hy3 hb4
  refine wpList_store_mid rfl 29 _ _ rfl g (fst * 6) x.cells.toArray rfl rfl (HB4.out.th _ hf) (let_size' x) (let_one' x) ?_
  simp only [Act.put]
  have hV := (Upd.refl [g] W4).setCells (b := g) (by simp) (fst * 6) x.cells
  have HB5 := Lib.hid (HB4.out.ring hf x)
  have HU5 := Lib.hid (HU4.out.setCells (b := g) (by simp) (fst * 6) x.cells)
  have hZ5 := hV.heap (by simp; omega) hZ4
  have hy5 := hV.range (by simp; omega) hy4
  generalize W4.setCells g (fst * 6) x.cells = W5 at HB5 HU5 hZ5 hy5 hV ⊢
  clear HB4 HU4 hZ4 hy4 hV
  go_wp2_with fail
  have d0 := fun (x : Later W5) => x.cell HB5.out.c0
  have d1 := fun (x : Later W5) => x.cell HB5.out.c1
  refine wp_region_later_tail 14 (by kernel_rfl) (by kernel_rfl) (Below.refl _ _) ?_
  simp only [List.take_succ_cons, List.take_zero, List.drop_succ_cons, List.drop_zero]
  repeat (first
    | go_big_quiet_skip
    | (go_big_quiet_want; (go_big_quiet_op; go_big_quiet_on)))
  refine wpQuiet_nil ?_
  rintro ⟨W6, hb6⟩
  dsimp only
  have HB6 := Lib.hid (HB5.out.below hb6)
  have HU6 := Lib.hid (HU5.out.trans (Upd.ofBelow _ hb6))
  have hZ6 := (Upd.ofBelow [] hb6).heap (by simp) hZ5
  have hy6 := below_range hb6 hy5
  clear HB5 HU5 hZ5 hy5 hb6 d0 d1
  have c1 := HB6.out.c1
  have f1 := HB6.out.f1
  have hu7 := fun v => (Upd.refl [p] W6).setCell (p := ⟨p, 1, none⟩) (by simp) v
  go_wp2_with (first
    | (refine wpList_load_mid rfl 29 _ rfl g2 0 rfl y.cells _ ((hu7 _).range (by simp; omega) hy6) Try.underlying29 rfl (letRow y) ?_)
    | (refine wpList_store_mid rfl 29 _ _ rfl (w.heap.size + 1) 0 y.cells.toArray rfl rfl (there_row ((hu7 _).heap (by simp; omega) hZ6) 6 (Nat.le_refl _)) (let_size' _) (let_one' _) ?_))
  rw [m2.out]
  have HB7 := HB6.out.first ((fst + 1) % room)
  have HU7 := HU6.out.setCell (p := ⟨p, 1, none⟩) (by simp) (.int .i64 ((fst + 1) % room : Nat))
  have hZ7 := (hu7 (.int .i64 ((fst + 1) % room : Nat))).heap (by simp; omega) hZ6
  generalize W6.setCell ⟨p, 1, none⟩ (.int .i64 ((fst + 1) % room : Nat)) = W7 at HB7 HU7 hZ7 ⊢
  have hU8 := ((Upd.refl [w.heap.size + 1] W7).setCells (b := w.heap.size + 1) (by simp) 0 y.cells)
  have hlen : (L.tail ++ [x]).length = L.length := by simp; omega
  refine bodyPost_ret (results_row_tmp rfl _ _ (w.heap.size + 1) y.cells _ rfl (World.rangeAt_setCells_same _ _ _ _ (there_row hZ7 6 (Nat.le_refl _))) Try.underlying29 rfl (letRow _)) rfl ⟨rfl, ?_, Nat.mod_lt _ r0, by omega, _, ?_, hR2.out⟩
  · exact HU7.transG hU8 (by simp)
  · rw [hlen]; exact HB7.upd hU8 (by simp; omega) (by simp; omega)

theorem two_heap (w : World) (x : Let) (t : TypeId) : ((w.alloc (.cells x.cells.toArray t)).alloc (.cells zeroLet.cells.toArray t)).heap[w.heap.size + 1]? = some (.cells zeroLet.cells.toArray t (0, 0)) := by
  have := heap_alloc_new (w.alloc (.cells x.cells.toArray t)) (.cells zeroLet.cells.toArray t)
  simpa using this

set_option maxHeartbeats 1000000 in
theorem put_none (w : World) (x : Let) :
    Calls Try.prog 7 #[.pointer none, .agg x.cells.toArray] w fun e w' => e = .returned (.tuple #[.agg zeroLet.cells.toArray, .bool false]) ∧ Below w.heap.size w w' := by
  go_enter Try.func7, Try.ntmps7
  go_wp2_with (refine wpList_store_mid rfl 29 _ _ rfl (w.heap.size + 1) 0 zeroLet.cells.toArray rfl rfl (there_row (two_heap w x 29) 6 (Nat.le_refl _)) (let_size' _) (let_one' _) ?_)
  have hU : Below w.heap.size w ((w.alloc (.cells x.cells.toArray 29)).alloc (.cells zeroLet.cells.toArray 29)) := ((Below.refl _ _).alloc (Nat.le_refl _) _).alloc (by simp) _
  have hZ := two_heap w x 29
  have hs : ((w.alloc (.cells x.cells.toArray 29)).alloc (.cells zeroLet.cells.toArray 29)).heap.size = w.heap.size + 2 := by simp
  show bodyPost _ _ _ _ _ (((w.alloc (.cells x.cells.toArray 29)).alloc (.cells zeroLet.cells.toArray 29)).setCells (w.heap.size + 1) 0 zeroLet.cells)
  generalize (w.alloc (.cells x.cells.toArray 29)).alloc (.cells zeroLet.cells.toArray 29) = W4 at hU hZ hs ⊢
  have hU5 := ((Upd.refl [w.heap.size + 1] W4).setCells (b := w.heap.size + 1) (by simp) 0 zeroLet.cells)
  refine bodyPost_ret (results_row_tmp rfl _ _ (w.heap.size + 1) zeroLet.cells _ rfl (World.rangeAt_setCells_same _ _ _ _ (there_row hZ 6 (Nat.le_refl _))) Try.underlying29 rfl (letRow _)) rfl ⟨rfl, ?_⟩
  exact hU5.toBelow hU (by omega) (by simp)

end Go.Proofs.Ytchkbbkcflmcmaa
