/- Set of a table of operations. (Printed by genopset.py.) -/
import Derived.Test.YtddmajgadaooaaaOpNow
import Derived.Test.YtddmajgadaooaaaTree
set_option linter.unusedVariables false
namespace Go.Proofs.Ytddmajgadaooaaa
open Go.RowKit

theorem two_rows {W3 W6 : World} {q7 q8 : Nat} {T : TypeId} {z1 z2 : Array Value} (hb : Below W3.heap.size W3 W6) (h7 : W6.heap[q7]? = some (.cells z1 T (0, 0))) (h8 : W6.heap[q8]? = some (.cells z2 T (0, 0))) (hne : q7 ≠ q8) (l7 : W3.heap.size ≤ q7) (l8 : W3.heap.size ≤ q8) (f g : Array Value) :
    Below W3.heap.size W3 ((W6.setRow q7 f).setRow q8 g) ∧ ((W6.setRow q7 f).setRow q8 g).heap[q7]? = some (.cells f T (0, 0)) ∧ ((W6.setRow q7 f).setRow q8 g).heap[q8]? = some (.cells g T (0, 0)) :=
  ⟨below_row (below_row hb l7 _) l8 _, by rw [setRow_other _ _ _ _ hne]; exact setRow_heap _ _ _ _ _ _ h7, setRow_heap _ _ _ _ _ _ (by rw [setRow_other _ _ _ _ (Ne.symm hne)]; exact h8)⟩
def oneM (M : Int → Option Value) (o : OpV) : Int → Option Value := fun i => if i = o.id then some (opR.val o) else M i
def updF (fl : Fli → List Int) (g : Fli) (l : List Int) : Fli → List Int := fun f => if f = g then l else fl f
def setA (A : List Int) (o : OpV) : List Int := if term o.st = true then but o.id A else A
def setD (keep : Int) (D : List Int) (o : OpV) : List Int := if term o.st = true then endD keep D o.id else D
def setM (keep : Int) (D : List Int) (M : Int → Option Value) (o : OpV) : Int → Option Value := if term o.st = true then endM keep D o.id (oneM M o) else oneM M o
def setF (fl : Fli → List Int) (was o : OpV) : Fli → List Int :=
  if term o.st = true then updF fl was.fli (but o.id (fl was.fli))
  else if was.fli = o.fli then fl
  else updF (updF fl was.fli (but o.id (fl was.fli))) o.fli ((fl o.fli ++ [o.id]).mergeSort fun x y => decide (x ≤ y))
def SetP (T : Nat → Prop) (w : World) (t : Nat) (keep next : Int) (m fm : Nat) (A D : List Int) (M : Int → Option Value) (fl : Fli → List Int) (was o : OpV) (e : Ending) (w' : World) : Prop :=
  e = .returned (.bool true) ∧ UpdP T w w' ∧ ∃ lv ev sl, OMem (Gr T w w') w' t keep next lv ev m fm sl (setA A o) (setD keep D o) (setM keep D M o) (setF fl was o)
theorem fliGuard : Try.prog.eqGuardType Try.prog.depth 65 = false := by kernel_rfl
set_option maxRecDepth 100000 in
set_option maxHeartbeats 4000000 in
theorem set_none (T : Nat → Prop) (w : World) (t : Nat) (keep next : Int) (lv ev : Value) (m fm : Nat) (sl : Fli → Value) (A D : List Int) (M : Int → Option Value) (fl : Fli → List Int) (h : OMem T w t keep next lv ev m fm sl A D M fl) (o : OpV) (hx : M o.id = (none : Option OpV).map opR.val) :
    Calls Try.prog 15 #[.pointer (some ⟨t, 0, none⟩), .agg o.cells.toArray] w fun e w' => e = .returned (.bool false) ∧ Below w.heap.size w w' := by
  have hb1 : Below w.heap.size w (w.alloc (.cells o.cells.toArray 30)) := (Below.refl _ _).alloc (Nat.le_refl _) _
  have hn1 : (w.alloc (.cells o.cells.toArray 30)).heap[w.heap.size]? = some (.cells o.cells.toArray 30 (0, 0)) := heap_alloc_new _ _
  have hs1 : w.heap.size < (w.alloc (.cells o.cells.toArray 30)).heap.size := by simp
  obtain ⟨W1, hW1⟩ : ∃ W1, W1 = w.alloc (.cells o.cells.toArray 30) := ⟨_, rfl⟩
  rw [← hW1] at hb1 hn1 hs1
  have HM1 := Lib.hid (h.below hb1)
  have HN := Lib.hid hn1
  have HB1 := Lib.hid hb1
  have HS0 := Lib.hid (Now.start h)
  have hlt0 := h.lt
  have hT0 := h.tT.1
  have hTm := h.tT.2.1
  have hTf := h.tT.2.2
  have ho0 : ¬ T w.heap.size := fun hT => by have := hlt0 _ hT; omega
  have KG := Lib.hid (get_any T W1 t keep next lv ev m fm sl A D M fl HM1.out o.id none hx)
  have k0 : W1.cell? ⟨w.heap.size, 0, none⟩ = some (.int .i64 o.id) := by simpa using (op_range hn1) 0 _ rfl
  clear h hn1 hx
  go_enter Try.func15, Try.ntmps15
  go_upto_region 1 with fail
  show Code.wp _ _ _ _ (w.alloc (.cells o.cells.toArray 30))
  rw [← hW1]
  clear hW1 hb1
  go_upto_region 2 with (first
    | (go_at_call 14; refine KG.out.mono ?_; rintro e W2 ⟨rfl, hb2⟩)
    | (refine wpList_store_row rfl 30 _ _ rfl W2.heap.size zeroOp.cells.toArray rfl rfl 30 zeroOp.cells.toArray (heap_alloc_new _ _) (opRow' zeroOp) rfl (opOne zeroOp) ?_))
  show Code.wp _ _ _ _ ((W2.alloc (.cells zeroOp.cells.toArray 30)).setRow W2.heap.size zeroOp.cells.toArray)
  have hn3 : ((W2.alloc (.cells zeroOp.cells.toArray 30)).setRow W2.heap.size zeroOp.cells.toArray).heap[W2.heap.size]? = some (.cells zeroOp.cells.toArray 30 (0, 0)) := setRow_heap _ _ _ _ _ _ (heap_alloc_new _ _)
  have hb3 : Below W2.heap.size W2 ((W2.alloc (.cells zeroOp.cells.toArray 30)).setRow W2.heap.size zeroOp.cells.toArray) := below_row ((Below.refl _ _).alloc (Nat.le_refl _) _) (Nat.le_refl _) _
  have hs12 := hb2.size
  have hs3 := lt_of_block hn3
  generalize (W2.alloc (.cells zeroOp.cells.toArray 30)).setRow W2.heap.size zeroOp.cells.toArray = W3 at hn3 hb3 hs3 ⊢
  obtain ⟨r5, hr5⟩ : ∃ r5, r5 = W2.heap.size := ⟨_, rfl⟩
  rw [← hr5] at hn3 hs3 ⊢
  have hr5' : W1.heap.size ≤ r5 := by omega
  clear hr5
  have HB3 := Lib.hid (bthen' hb2 hb3)
  have HW := Lib.hid hn3
  clear hn3 hb2 hb3 k0
  have HM3 := Lib.hid (HM1.out.below HB3.out)
  have HN3 := Lib.hid (kept HB3.out HN.out)
  have wst : W3.cell? ⟨r5, 8, none⟩ = some (.int .i64 zeroOp.st) := by simpa using (op_range HW.out) 8 _ rfl
  (try simp only [Act.put])
  go_wp2_with fail
  go_ret
  exact ⟨rfl, bthen' HB1.out HB3.out⟩
set_option maxRecDepth 100000 in
set_option maxHeartbeats 4000000 in
theorem set_over (T : Nat → Prop) (w : World) (t : Nat) (keep next : Int) (lv ev : Value) (m fm : Nat) (sl : Fli → Value) (A D : List Int) (M : Int → Option Value) (fl : Fli → List Int) (h : OMem T w t keep next lv ev m fm sl A D M fl) (o : OpV) (was : OpV) (hx : M o.id = (some was).map opR.val) (ht : term was.st = true) :
    Calls Try.prog 15 #[.pointer (some ⟨t, 0, none⟩), .agg o.cells.toArray] w fun e w' => e = .returned (.bool false) ∧ Below w.heap.size w w' := by
  have kt := fun W => terminal_any was.st W
  rw [ht] at kt
  have KT := Lib.hid kt
  clear kt ht
  have hb1 : Below w.heap.size w (w.alloc (.cells o.cells.toArray 30)) := (Below.refl _ _).alloc (Nat.le_refl _) _
  have hn1 : (w.alloc (.cells o.cells.toArray 30)).heap[w.heap.size]? = some (.cells o.cells.toArray 30 (0, 0)) := heap_alloc_new _ _
  have hs1 : w.heap.size < (w.alloc (.cells o.cells.toArray 30)).heap.size := by simp
  obtain ⟨W1, hW1⟩ : ∃ W1, W1 = w.alloc (.cells o.cells.toArray 30) := ⟨_, rfl⟩
  rw [← hW1] at hb1 hn1 hs1
  have HM1 := Lib.hid (h.below hb1)
  have HN := Lib.hid hn1
  have HB1 := Lib.hid hb1
  have HS0 := Lib.hid (Now.start h)
  have hlt0 := h.lt
  have hT0 := h.tT.1
  have hTm := h.tT.2.1
  have hTf := h.tT.2.2
  have ho0 : ¬ T w.heap.size := fun hT => by have := hlt0 _ hT; omega
  have KG := Lib.hid (get_any T W1 t keep next lv ev m fm sl A D M fl HM1.out o.id (some was) hx)
  have k0 : W1.cell? ⟨w.heap.size, 0, none⟩ = some (.int .i64 o.id) := by simpa using (op_range hn1) 0 _ rfl
  clear h hn1 hx
  go_enter Try.func15, Try.ntmps15
  go_upto_region 1 with fail
  show Code.wp _ _ _ _ (w.alloc (.cells o.cells.toArray 30))
  rw [← hW1]
  clear hW1 hb1
  go_upto_region 2 with (first
    | (go_at_call 14; refine KG.out.mono ?_; rintro e W2 ⟨rfl, hb2⟩)
    | (refine wpList_store_row rfl 30 _ _ rfl W2.heap.size was.cells.toArray rfl rfl 30 zeroOp.cells.toArray (heap_alloc_new _ _) (opRow' was) rfl (opOne was) ?_))
  show Code.wp _ _ _ _ ((W2.alloc (.cells zeroOp.cells.toArray 30)).setRow W2.heap.size was.cells.toArray)
  have hn3 : ((W2.alloc (.cells zeroOp.cells.toArray 30)).setRow W2.heap.size was.cells.toArray).heap[W2.heap.size]? = some (.cells was.cells.toArray 30 (0, 0)) := setRow_heap _ _ _ _ _ _ (heap_alloc_new _ _)
  have hb3 : Below W2.heap.size W2 ((W2.alloc (.cells zeroOp.cells.toArray 30)).setRow W2.heap.size was.cells.toArray) := below_row ((Below.refl _ _).alloc (Nat.le_refl _) _) (Nat.le_refl _) _
  have hs12 := hb2.size
  have hs3 := lt_of_block hn3
  generalize (W2.alloc (.cells zeroOp.cells.toArray 30)).setRow W2.heap.size was.cells.toArray = W3 at hn3 hb3 hs3 ⊢
  obtain ⟨r5, hr5⟩ : ∃ r5, r5 = W2.heap.size := ⟨_, rfl⟩
  rw [← hr5] at hn3 hs3 ⊢
  have hr5' : W1.heap.size ≤ r5 := by omega
  clear hr5
  have HB3 := Lib.hid (bthen' hb2 hb3)
  have HW := Lib.hid hn3
  clear hn3 hb2 hb3 k0
  have HM3 := Lib.hid (HM1.out.below HB3.out)
  have HN3 := Lib.hid (kept HB3.out HN.out)
  have wst : W3.cell? ⟨r5, 8, none⟩ = some (.int .i64 was.st) := by simpa using (op_range HW.out) 8 _ rfl
  (try simp only [Act.put])
  go_wp2_with (go_at_call 26; refine (KT.out W3).mono ?_; rintro e w' ⟨rfl, rfl⟩)
  go_ret
  exact ⟨rfl, bthen' HB1.out HB3.out⟩
set_option maxRecDepth 100000 in
set_option maxHeartbeats 4000000 in
theorem set_yes (T : Nat → Prop) (w : World) (t : Nat) (keep next : Int) (lv ev : Value) (m fm : Nat) (sl : Fli → Value) (A D : List Int) (M : Int → Option Value) (fl : Fli → List Int) (h : OMem T w t keep next lv ev m fm sl A D M fl) (o : OpV) (was : OpV) (hx : M o.id = (some was).map opR.val) (ht : term was.st = false) (hA : A.length ≤ 900) (hD : D.length ≤ 900) (hkeep : 1 ≤ keep) (hfl1 : (fl was.fli).length ≤ 900) (hfl2 : (fl o.fli).length ≤ 900) :
    Calls Try.prog 15 #[.pointer (some ⟨t, 0, none⟩), .agg o.cells.toArray] w (SetP T w t keep next m fm A D M fl was o) := by
  have kt := fun W => terminal_any was.st W
  rw [ht] at kt
  have KT := Lib.hid kt
  clear kt ht
  have hb1 : Below w.heap.size w (w.alloc (.cells o.cells.toArray 30)) := (Below.refl _ _).alloc (Nat.le_refl _) _
  have hn1 : (w.alloc (.cells o.cells.toArray 30)).heap[w.heap.size]? = some (.cells o.cells.toArray 30 (0, 0)) := heap_alloc_new _ _
  have hs1 : w.heap.size < (w.alloc (.cells o.cells.toArray 30)).heap.size := by simp
  obtain ⟨W1, hW1⟩ : ∃ W1, W1 = w.alloc (.cells o.cells.toArray 30) := ⟨_, rfl⟩
  rw [← hW1] at hb1 hn1 hs1
  have HM1 := Lib.hid (h.below hb1)
  have HN := Lib.hid hn1
  have HB1 := Lib.hid hb1
  have HS0 := Lib.hid (Now.start h)
  have hlt0 := h.lt
  have hT0 := h.tT.1
  have hTm := h.tT.2.1
  have hTf := h.tT.2.2
  have ho0 : ¬ T w.heap.size := fun hT => by have := hlt0 _ hT; omega
  have KG := Lib.hid (get_any T W1 t keep next lv ev m fm sl A D M fl HM1.out o.id (some was) hx)
  have k0 : W1.cell? ⟨w.heap.size, 0, none⟩ = some (.int .i64 o.id) := by simpa using (op_range hn1) 0 _ rfl
  clear h hn1 hx
  go_enter Try.func15, Try.ntmps15
  go_upto_region 1 with fail
  show Code.wp _ _ _ _ (w.alloc (.cells o.cells.toArray 30))
  rw [← hW1]
  clear hW1 hb1
  go_upto_region 2 with (first
    | (go_at_call 14; refine KG.out.mono ?_; rintro e W2 ⟨rfl, hb2⟩)
    | (refine wpList_store_row rfl 30 _ _ rfl W2.heap.size was.cells.toArray rfl rfl 30 zeroOp.cells.toArray (heap_alloc_new _ _) (opRow' was) rfl (opOne was) ?_))
  show Code.wp _ _ _ _ ((W2.alloc (.cells zeroOp.cells.toArray 30)).setRow W2.heap.size was.cells.toArray)
  have hn3 : ((W2.alloc (.cells zeroOp.cells.toArray 30)).setRow W2.heap.size was.cells.toArray).heap[W2.heap.size]? = some (.cells was.cells.toArray 30 (0, 0)) := setRow_heap _ _ _ _ _ _ (heap_alloc_new _ _)
  have hb3 : Below W2.heap.size W2 ((W2.alloc (.cells zeroOp.cells.toArray 30)).setRow W2.heap.size was.cells.toArray) := below_row ((Below.refl _ _).alloc (Nat.le_refl _) _) (Nat.le_refl _) _
  have hs12 := hb2.size
  have hs3 := lt_of_block hn3
  generalize (W2.alloc (.cells zeroOp.cells.toArray 30)).setRow W2.heap.size was.cells.toArray = W3 at hn3 hb3 hs3 ⊢
  obtain ⟨r5, hr5⟩ : ∃ r5, r5 = W2.heap.size := ⟨_, rfl⟩
  rw [← hr5] at hn3 hs3 ⊢
  have hr5' : W1.heap.size ≤ r5 := by omega
  clear hr5
  have HB3 := Lib.hid (bthen' hb2 hb3)
  have HW := Lib.hid hn3
  clear hn3 hb2 hb3 k0
  have HM3 := Lib.hid (HM1.out.below HB3.out)
  have HN3 := Lib.hid (kept HB3.out HN.out)
  have wst : W3.cell? ⟨r5, 8, none⟩ = some (.int .i64 was.st) := by simpa using (op_range HW.out) 8 _ rfl
  (try simp only [Act.put])
  go_upto_region 4 with (go_at_call 26; refine (KT.out W3).mono ?_; rintro e w' ⟨rfl, rfl⟩)
  go_cut [7, 8] (fun s7 s8 wx => ∃ q7 q8 : Nat, s7 = .pointer (some ⟨q7, 0, none⟩) ∧ s8 = .pointer (some ⟨q8, 0, none⟩) ∧ Below W3.heap.size W3 wx ∧ wx.heap[q7]? = some (.cells was.fli.cells.toArray 65 (0, 0)) ∧ wx.heap[q8]? = some (.cells o.fli.cells.toArray 65 (0, 0)) ∧ W3.heap.size ≤ q7 ∧ W3.heap.size ≤ q8)
  case first =>
    have ra : W3.rangeAt r5 3 was.acn.cells := by simpa using op_acn (op_range HW.out)
    have ro : W3.rangeAt w.heap.size 3 o.acn.cells := by simpa using op_acn (op_range HN3.out)
    have k1 : W3.cell? ⟨r5, 1, none⟩ = some (.int .i64 was.ten) := by simpa using (op_range HW.out) 1 _ rfl
    have k2 : W3.cell? ⟨w.heap.size, 1, none⟩ = some (.int .i64 o.ten) := by simpa using (op_range HN3.out) 1 _ rfl
    have hne0 : Nonempty (Mix.InS (fun z => Below W3.heap.size W3 z)) := ⟨⟨W3, Below.refl _ _⟩⟩
    have d0 := fun (z : Mix.InS (fun z => Below W3.heap.size W3 z)) => below_cell z.h k1
    have d1 := fun (z : Mix.InS (fun z => Below W3.heap.size W3 z)) => below_cell z.h k2
    have RA := Lib.hid (fun (w' : World) (hx : ∃ x : Mix.InS (fun z => Below W3.heap.size W3 z), w' = x.w) => (show w'.rangeAt r5 3 was.acn.cells from by obtain ⟨z, rfl⟩ := hx; exact below_range z.h ra))
    have RO := Lib.hid (fun (w' : World) (hx : ∃ x : Mix.InS (fun z => Below W3.heap.size W3 z), w' = x.w) => (show w'.rangeAt w.heap.size 3 o.acn.cells from by obtain ⟨z, rfl⟩ := hx; exact below_range z.h ro))
    clear ra ro k1 k2
    refine Mix.wp_region_tree (.two [0, 1, 2, 3, 4, 5, 6, 7, 8, 9] 10 (.op [] 11 (.op [] 12 (.op [] 13 (.fin [])))) 11 (.op [] 10 (.op [] 12 (.op [] 13 (.fin []))))) (fun w' => ∃ x : Mix.InS (fun z => Below W3.heap.size W3 z), w' = x.w) (by kernel_rfl) (by kernel_rfl) (Mix.inS_mk (Below.refl _ _).drew) ?_
    have HB4 := Lib.hid (show Below W3.heap.size W3 W3.drew from (Below.refl _ _).drew)
    generalize W3.drew = W4 at HB4 ⊢
    refine Mix.tree_two ?_
    simp only [Mix.pickL, List.getElem?_cons_zero, List.getElem?_cons_succ]
    repeat (first
      | go_big_quiet_skip
      | (go_big_quiet_want; first
        | (refine quiet_load_mid 27 _ rfl r5 3 rfl was.acn.cells _ RA.out Try.underlying27 rfl (acnRow was.acn) ?_; simp only [Act.put, List.setIfInBounds_toArray, List.set_cons_succ, List.set_cons_zero]; go_big_quiet_on)
        | (go_big_quiet_op; go_big_quiet_on)))
    go_big_quiet_want
    refine quiet_buildS 65 _ rfl [(0, .int .i64 was.ten), (1, .agg was.acn.cells.toArray)] (by kernel_rfl) was.fli.cells.toArray (fli_built was.fli) ?_
    simp only [Act.put, List.setIfInBounds_toArray, List.set_cons_succ, List.set_cons_zero]
    go_big_quiet_on
    repeat (first
      | go_big_quiet_skip
      | (go_big_quiet_want; first
        | (refine quiet_load_mid 27 _ rfl w.heap.size 3 rfl o.acn.cells _ RO.out Try.underlying27 rfl (acnRow o.acn) ?_; simp only [Act.put, List.setIfInBounds_toArray, List.set_cons_succ, List.set_cons_zero]; go_big_quiet_on)
        | (go_big_quiet_op; go_big_quiet_on)))
    go_big_quiet_want
    refine quiet_buildS 65 _ rfl [(0, .int .i64 o.ten), (1, .agg o.acn.cells.toArray)] (by kernel_rfl) o.fli.cells.toArray (fli_built o.fli) ?_
    simp only [Act.put, List.setIfInBounds_toArray, List.set_cons_succ, List.set_cons_zero]
    go_big_quiet_on
    refine wpQuiet_nil ?_
    clear d0 d1 RA RO wst
    refine ⟨?_, ?_⟩
    · go_wp2_with fail
      have hbA := HB4.out.alloc HB4.out.size (.cells zeroFli.cells.toArray 65)
      have hnA := heap_alloc_new W4 (.cells zeroFli.cells.toArray 65)
      have lA := HB4.out.size
      refine Mix.onward_in (W' := W4.alloc (.cells zeroFli.cells.toArray 65)) hbA ?_
      have hsA : (W4.alloc (.cells zeroFli.cells.toArray 65)).heap.size = W4.heap.size + 1 := by simp
      obtain ⟨qa, hqa⟩ : ∃ qa, qa = W4.heap.size := ⟨_, rfl⟩
      rw [← hqa] at hnA lA ⊢
      generalize W4.alloc (.cells zeroFli.cells.toArray 65) = W5 at hbA hnA hsA ⊢
      have hq5 : qa < W5.heap.size := by omega
      clear hqa hsA
      refine Mix.tree_op ?_
      simp only [Mix.pickL, List.getElem?_cons_zero, List.getElem?_cons_succ]
      refine wpQuiet_nil ?_
      go_wp2_with fail
      have hbB := hbA.alloc hbA.size (.cells zeroFli.cells.toArray 65)
      have hnB := heap_alloc_new W5 (.cells zeroFli.cells.toArray 65)
      have hnA2 : (W5.alloc (.cells zeroFli.cells.toArray 65)).heap[qa]? = some (.cells zeroFli.cells.toArray 65 (0, 0)) := kept ((Below.refl _ _).alloc (Nat.le_refl _) _) hnA
      have lB := hbA.size
      refine Mix.onward_in (W' := W5.alloc (.cells zeroFli.cells.toArray 65)) hbB ?_
      obtain ⟨qb, hqb⟩ : ∃ qb, qb = W5.heap.size := ⟨_, rfl⟩
      rw [← hqb] at hnB lB hq5 ⊢
      generalize W5.alloc (.cells zeroFli.cells.toArray 65) = W6 at hbB hnB hnA2 ⊢
      clear hqb hbA hnA
      have HB6 := Lib.hid hbB
      have h7 := hnA2
      have h8 := hnB
      have l7 := lA
      have l8 := lB
      have hne : qa ≠ qb := by omega
      refine Mix.tree_op ?_
      simp only [Mix.pickL, List.getElem?_cons_zero, List.getElem?_cons_succ]
      refine wpQuiet_nil ?_
      go_wp2_with (refine wpList_store_row rfl 65 _ _ rfl qa was.fli.cells.toArray rfl rfl 65 zeroFli.cells.toArray h7 (fliRow' was.fli) rfl (fliOne was.fli) ?_)
      refine Mix.onward_in (W' := W6.setRow qa was.fli.cells.toArray) (below_row HB6.out l7 _) ?_
      refine Mix.tree_op ?_
      simp only [Mix.pickL, List.getElem?_cons_zero, List.getElem?_cons_succ]
      refine wpQuiet_nil ?_
      (try simp only [Act.put])
      go_wp2_with (refine wpList_store_row rfl 65 _ _ rfl qb o.fli.cells.toArray rfl rfl 65 zeroFli.cells.toArray (by rw [setRow_other _ _ _ _ (Ne.symm hne)]; exact h8) (fliRow' o.fli) rfl (fliOne o.fli) ?_)
      refine Mix.onward_in (W' := (W6.setRow qa was.fli.cells.toArray).setRow qb o.fli.cells.toArray) (below_row (below_row HB6.out l7 _) l8 _) ?_
      refine Mix.tree_fin ?_
      simp only [Mix.pickL]
      refine wpQuiet_nil ?_
      (try simp only [Act.put])
      go_wp2_with fail
      go_meet
      obtain ⟨e1, e2, e3⟩ := two_rows HB6.out h7 h8 hne l7 l8 was.fli.cells.toArray o.fli.cells.toArray
      exact ⟨_, _, rfl, rfl, e1, e2, e3, l7, l8⟩
    · go_wp2_with fail
      have hbA := HB4.out.alloc HB4.out.size (.cells zeroFli.cells.toArray 65)
      have hnA := heap_alloc_new W4 (.cells zeroFli.cells.toArray 65)
      have lA := HB4.out.size
      refine Mix.onward_in (W' := W4.alloc (.cells zeroFli.cells.toArray 65)) hbA ?_
      have hsA : (W4.alloc (.cells zeroFli.cells.toArray 65)).heap.size = W4.heap.size + 1 := by simp
      obtain ⟨qa, hqa⟩ : ∃ qa, qa = W4.heap.size := ⟨_, rfl⟩
      rw [← hqa] at hnA lA ⊢
      generalize W4.alloc (.cells zeroFli.cells.toArray 65) = W5 at hbA hnA hsA ⊢
      have hq5 : qa < W5.heap.size := by omega
      clear hqa hsA
      refine Mix.tree_op ?_
      simp only [Mix.pickL, List.getElem?_cons_zero, List.getElem?_cons_succ]
      refine wpQuiet_nil ?_
      go_wp2_with fail
      have hbB := hbA.alloc hbA.size (.cells zeroFli.cells.toArray 65)
      have hnB := heap_alloc_new W5 (.cells zeroFli.cells.toArray 65)
      have hnA2 : (W5.alloc (.cells zeroFli.cells.toArray 65)).heap[qa]? = some (.cells zeroFli.cells.toArray 65 (0, 0)) := kept ((Below.refl _ _).alloc (Nat.le_refl _) _) hnA
      have lB := hbA.size
      refine Mix.onward_in (W' := W5.alloc (.cells zeroFli.cells.toArray 65)) hbB ?_
      obtain ⟨qb, hqb⟩ : ∃ qb, qb = W5.heap.size := ⟨_, rfl⟩
      rw [← hqb] at hnB lB hq5 ⊢
      generalize W5.alloc (.cells zeroFli.cells.toArray 65) = W6 at hbB hnB hnA2 ⊢
      clear hqb hbA hnA
      have HB6 := Lib.hid hbB
      have h8 := hnA2
      have h7 := hnB
      have l8 := lA
      have l7 := lB
      have hne : qb ≠ qa := by omega
      refine Mix.tree_op ?_
      simp only [Mix.pickL, List.getElem?_cons_zero, List.getElem?_cons_succ]
      refine wpQuiet_nil ?_
      go_wp2_with (refine wpList_store_row rfl 65 _ _ rfl qb was.fli.cells.toArray rfl rfl 65 zeroFli.cells.toArray h7 (fliRow' was.fli) rfl (fliOne was.fli) ?_)
      refine Mix.onward_in (W' := W6.setRow qb was.fli.cells.toArray) (below_row HB6.out l7 _) ?_
      refine Mix.tree_op ?_
      simp only [Mix.pickL, List.getElem?_cons_zero, List.getElem?_cons_succ]
      refine wpQuiet_nil ?_
      (try simp only [Act.put])
      go_wp2_with (refine wpList_store_row rfl 65 _ _ rfl qa o.fli.cells.toArray rfl rfl 65 zeroFli.cells.toArray (by rw [setRow_other _ _ _ _ (Ne.symm hne)]; exact h8) (fliRow' o.fli) rfl (fliOne o.fli) ?_)
      refine Mix.onward_in (W' := (W6.setRow qb was.fli.cells.toArray).setRow qa o.fli.cells.toArray) (below_row (below_row HB6.out l7 _) l8 _) ?_
      refine Mix.tree_fin ?_
      simp only [Mix.pickL]
      refine wpQuiet_nil ?_
      (try simp only [Act.put])
      go_wp2_with fail
      go_meet
      obtain ⟨e1, e2, e3⟩ := two_rows HB6.out h7 h8 hne l7 l8 was.fli.cells.toArray o.fli.cells.toArray
      exact ⟨_, _, rfl, rfl, e1, e2, e3, l7, l8⟩
  case rest =>
    obtain ⟨q7, q8, rfl, rfl, hbc, h7, h8, l7, l8⟩ := hcut
    have N4 := Lib.hid (((HS0.out.below HB1.out).below HB3.out).below hbc)
    have HN4 := Lib.hid (kept hbc HN3.out)
    have HF4 := Lib.hid h7
    have HG4 := Lib.hid h8
    have hsc := hbc.size
    have hs13 := HB3.out.size
    have hs01 := HB1.out.size
    have hz7 := lt_of_block h7
    have hz8 := lt_of_block h8
    have x0 : ¬ T w.heap.size := ho0
    have x7 : ¬ T q7 := fun h9 => by have := hlt0 _ h9; omega
    have x8 : ¬ T q8 := fun h9 => by have := hlt0 _ h9; omega
    have hq7 : q7 ≠ w.heap.size := by omega
    have hq8 : q8 ≠ w.heap.size := by omega
    have hto : w.heap.size < wc.heap.size := by omega
    clear h7 h8 hbc HM1 HM3 HN HN3 HB1 HB3 HW KG wst HS0
    have r7 := fli_range HF4.out
    have r8 := fli_range HG4.out
    have kst : wc.cell? ⟨w.heap.size, 8, none⟩ = some (.int .i64 o.st) := by simpa using (op_range HN4.out) 8 _ rfl
    by_cases hfg : was.fli = o.fli
    · have HFG := Lib.hid hfg
      cases htm : term o.st with
      | false =>
        have ko := fun W => terminal_any o.st W
        rw [htm] at ko
        have KO := Lib.hid ko
        have eA : setA A o = A := by unfold setA; rw [htm]; rfl
        have eD : setD keep D o = D := by unfold setD; rw [htm]; rfl
        have eM : setM keep D M o = oneM M o := by unfold setM; rw [htm]; rfl
        have eF : setF fl was o = fl := by unfold setF; rw [htm, if_neg (by simp), if_pos hfg]
        have FIN : Hid (∀ (W : World) (T' : Nat → Prop) (lv' ev' : Value) (sl' : Fli → Value), Now T w W T' t keep next lv' ev' m fm sl' A D (oneM M o) fl → SetP T w t keep next m fm A D M fl was o (.returned (.bool true)) W) := Lib.hid (fun W T' lv' ev' sl' hn => ⟨rfl, hn.u, lv', ev', sl', by rw [eA, eD, eM, eF]; exact hn.fin hlt0⟩)
        clear ko eA eD eM eF htm hfg
        have HNx := HN4
        have HFx := HF4
        have HGx := HG4
        go_upto_region 9 with (first
          | (refine wpList_load_mid rfl 65 _ rfl q7 0 rfl was.fli.cells _ r7 Try.underlying65 rfl (fliRow was.fli) ?_)
          | (refine wpList_load_mid rfl 65 _ rfl q8 0 rfl o.fli.cells _ r8 Try.underlying65 rfl (fliRow o.fli) ?_)
          | (refine wl_neqF rfl _ _ _ rfl was.fli o.fli rfl rfl ?_; rw [decide_eq_true HFG.out])
          | (go_at_call 26; refine (KO.out _).mono ?_; rintro e w' ⟨rfl, rfl⟩))
        have c4 := N4.out.m.box.get (i := 4) rfl
        have k0 : wc.cell? ⟨w.heap.size, 0, none⟩ = some (.int .i64 o.id) := by simpa using (op_range HNx.out) 0 _ rfl
        have d0 := fun (z : Later wc) => z.cell c4
        have d1 := fun (z : Later wc) => z.cell k0
        have RT := Lib.hid (fun w' hx => later_range (op_range HNx.out) w' hx)
        clear c4 k0
        refine Mix.wp_region_mix_tail 7 [] [0, 1, 2, 3, 4, 5, 6] (fun w' => ∃ x : Later wc, w' = x.w) (by kernel_rfl) (by kernel_rfl) (Mix.later_drew wc) ?_
        simp only [List.take_succ_cons, List.take_zero, List.drop_succ_cons, List.drop_zero]
        refine Mix.stages_nil ?_
        simp only [Mix.pickL, List.getElem?_cons_zero, List.getElem?_cons_succ]
        repeat (first
          | go_big_quiet_skip
          | (go_big_quiet_want; first
            | (refine quiet_load_mid 30 _ rfl w.heap.size 0 rfl o.cells _ RT.out Try.underlying30 rfl (opRow o) ?_; simp only [Act.put, List.setIfInBounds_toArray, List.set_cons_succ, List.set_cons_zero]; go_big_quiet_on)
            | (go_big_quiet_op; go_big_quiet_on)))
        refine wpQuiet_nil ?_
        clear d0 d1 RT
        have hbo : Below wc.heap.size wc wc.drew := (Below.refl _ _).drew
        have N4b := Lib.hid (N4.out.below hbo)
        have HNy := Lib.hid (kept hbo HNx.out)
        have HFy := Lib.hid (kept hbo HFx.out)
        have HGy := Lib.hid (kept hbo HGx.out)
        have hszo := hbo.size
        generalize wc.drew = W5 at hbo N4b HNy HFy HGy hszo ⊢
        obtain ⟨nop, hop⟩ := N4b.out.m.ops
        have HOP := Lib.hid hop
        clear hop hbo
        go_wp2_with (refine wl_update (intK_ok Try.underlying3) rfl _ _ _ 57 30 rfl Try.underlying57 rfl HOP.out o.id rfl (opR.val o) rfl ?_; intro W6 huo hmo)
        simp only [Mix.OnlyN]
        have N6 := Lib.hid (N4b.out.ops huo hmo)
        have nin : ∀ k, ¬ T k → k ∉ [m] := fun k hk hin => by simp at hin; subst hin; exact hk N4b.out.m.tT.2.1
        have HNz := Lib.hid (huo.heap (nin _ x0) HNy.out)
        have HFz := Lib.hid (huo.heap (nin _ x7) HFy.out)
        have HGz := Lib.hid (huo.heap (nin _ x8) HGy.out)
        have hszm := huo.size
        clear huo hmo HOP nin HNy HFy HGy
        have kst2 : W6.cell? ⟨w.heap.size, 8, none⟩ = some (.int .i64 o.st) := by simpa using (op_range HNz.out) 8 _ rfl
        go_wp2_with (first
          | (go_at_call 26; refine (KO.out _).mono ?_; rintro e w' ⟨rfl, rfl⟩)
          | (refine wpList_load_mid rfl 65 _ rfl q7 0 rfl was.fli.cells _ (fli_range HFz.out) Try.underlying65 rfl (fliRow was.fli) ?_)
          | (refine wpList_load_mid rfl 65 _ rfl q8 0 rfl o.fli.cells _ (fli_range HGz.out) Try.underlying65 rfl (fliRow o.fli) ?_)
          | (refine wl_neqF rfl _ _ _ rfl was.fli o.fli rfl rfl ?_; rw [decide_eq_true HFG.out]))
        go_ret
        exact FIN.out _ _ _ _ _ N6.out
      | true =>
        have ko := fun W => terminal_any o.st W
        rw [htm] at ko
        have KO := Lib.hid ko
        have eA : setA A o = but o.id A := by unfold setA; rw [htm]; rfl
        have eD : setD keep D o = endD keep D o.id := by unfold setD; rw [htm]; rfl
        have eM : setM keep D M o = endM keep D o.id (oneM M o) := by unfold setM; rw [htm]; rfl
        have eF : setF fl was o = updF fl was.fli (but o.id (fl was.fli)) := by unfold setF; rw [htm, if_pos rfl]
        have FIN : Hid (∀ (W : World) (T' : Nat → Prop) (lv' ev' : Value) (sl' : Fli → Value), Now T w W T' t keep next lv' ev' m fm sl' (but o.id A) (endD keep D o.id) (endM keep D o.id (oneM M o)) (updF fl was.fli (but o.id (fl was.fli))) → SetP T w t keep next m fm A D M fl was o (.returned (.bool true)) W) := Lib.hid (fun W T' lv' ev' sl' hn => ⟨rfl, hn.u, lv', ev', sl', by rw [eA, eD, eM, eF]; exact hn.fin hlt0⟩)
        clear ko eA eD eM eF htm hfg
        go_upto_region 6 with (first
          | (refine wpList_load_mid rfl 65 _ rfl q7 0 rfl was.fli.cells _ r7 Try.underlying65 rfl (fliRow was.fli) ?_)
          | (refine wpList_load_mid rfl 65 _ rfl q8 0 rfl o.fli.cells _ r8 Try.underlying65 rfl (fliRow o.fli) ?_)
          | (refine wl_neqF rfl _ _ _ rfl was.fli o.fli rfl rfl ?_; rw [decide_eq_true HFG.out])
          | (go_at_call 26; refine (KO.out _).mono ?_; rintro e w' ⟨rfl, rfl⟩))
        have c5 := N4.out.m.box.get (i := 5) rfl
        have k0 : wc.cell? ⟨w.heap.size, 0, none⟩ = some (.int .i64 o.id) := by simpa using (op_range HN4.out) 0 _ rfl
        have d0 := fun (z : Later wc) => z.cell c5
        have d1 := fun (z : Later wc) => z.cell k0
        have RF := Lib.hid (fun w' hx => later_range (fli_range HF4.out) w' hx)
        obtain ⟨v0, hv0, hO0, -⟩ := own0 N4.out.m was.fli
        obtain ⟨nfl, hfl4⟩ := N4.out.m.fls
        obtain ⟨f0, hf0⟩ : ∃ f0 : Fli → Option Value, f0 = fun f => if fl f = [] then none else some (sl f) := ⟨_, rfl⟩
        rw [← hf0] at hfl4
        have hv00 : (f0 was.fli).getD (.slice none 0 0) = v0 := by rw [hf0, hv0]
        have HV0 := Lib.hid hv00
        have HF0 := Lib.hid hf0
        have HFL := Lib.hid (fun (w' : World) (hx : ∃ x : Later wc, w' = x.w) => (show MapF fliK w' fm f0 nfl from by obtain ⟨z, rfl⟩ := hx; exact (hfl4.below z.h).toF))
        have HFS := Lib.hid hfl4
        have HO0 := Lib.hid hO0
        clear c5 k0 hv0 hO0 hfl4 hv00 hf0
        refine Mix.wp_region_mix_tail 14 [([0, 1, 2, 3, 4, 5, 6, 7, 8, 9, 10, 11, 12], 13)] [] (fun w' => ∃ x : Later wc, w' = x.w) (by kernel_rfl) (by kernel_rfl) (Mix.later_drew wc) ?_
        simp only [List.take_succ_cons, List.take_zero, List.drop_succ_cons, List.drop_zero]
        have hbd : Below wc.heap.size wc wc.drew := (Below.refl _ _).drew
        generalize wc.drew = W4 at hbd ⊢
        refine Mix.stages_cons ?_
        simp only [Mix.pickL, List.getElem?_cons_zero, List.getElem?_cons_succ]
        repeat (first
          | go_big_quiet_skip
          | (go_big_quiet_want; first
            | (refine quiet_load_mid 65 _ rfl q7 0 rfl was.fli.cells _ RF.out Try.underlying65 rfl (fliRow was.fli) ?_; simp only [Act.put, List.setIfInBounds_toArray, List.set_cons_succ, List.set_cons_zero]; go_big_quiet_on)
            | (refine quiet_lookup fliOk _ _ 58 59 rfl Try.underlying58 (z := .slice none 0 0) (fun w => Try.zeroValue59 w) rfl HFL.out was.fli rfl ?_; rw [HV0.out]; simp only [Act.put, List.setIfInBounds_toArray, List.set_cons_succ, List.set_cons_zero]; go_big_quiet_on)
            | (go_big_quiet_op; go_big_quiet_on)))
        refine wpQuiet_nil ?_
        clear d0 d1 RF HFL
        have N4d := Lib.hid (N4.out.below hbd)
        have KW := Lib.hid (without_any W4 v0 (fl was.fli) o.id ((HO0.out.below hbd).lts intOk) (by omega))
        go_wp2_with (go_at_call 28; refine KW.out.mono ?_; rintro e W5 ⟨v3, rfl, hb5, hO3⟩)
        have hb45 := bthen' hbd hb5
        refine Mix.onward_normal (W := wc) hb45 ?_
        refine Mix.stages_nil ?_
        simp only [Mix.pickL]
        refine wpQuiet_nil ?_
        have HFS5 := Lib.hid (HFS.out.below hb45)
        go_wp2_with (refine wl_updateS fliOk rfl _ _ _ 58 59 rfl Try.underlying58 rfl HFS5.out was.fli rfl v3 rfl ?_; intro W6 hu6 hm6)
        simp only [Mix.OnlyN]
        have hs4 := hbd.size
        have hs5 := hb5.size
        have hs6 := hu6.size
        have hfmT : T fm := N4.out.m.tT.2.2
        have nin : ∀ k, ¬ T k → k ∉ [fm] := fun k hk hin => by simp at hin; subst hin; exact hk hfmT
        have hU6 : Upd [fm] W4 W6 := (Upd.ofBelow [fm] hb5).trans hu6
        have HU6 := Lib.hid hU6
        have HN6 := Lib.hid (hU6.heap (nin _ x0) (kept hbd HN4.out))
        have HF6 := Lib.hid (hU6.heap (nin _ x7) (kept hbd HF4.out))
        have HG6 := Lib.hid (hU6.heap (nin _ x8) (kept hbd HG4.out))
        have hfml := hlt0 fm hfmT
        have HO6 := Lib.hid ((hO3.mono (Nat.zero_le _)).upd hu6 (fun k hk => by have := (hO3.lt k hk).1; simp; omega))
        have HL3 := Lib.hid (fun k (hk : v3.ownBlock = some k) => (hO3.lt k hk).1)
        have c5 : W6.cell? ⟨t, 5, none⟩ = some (.map (some fm)) := hU6.cell (by simpa using N4d.out.m.tm.2) (N4d.out.m.box.get (i := 5) rfl)
        obtain ⟨n6, hm6⟩ : ∃ n, MapS fliK W6 fm (fun x => if x = was.fli then some v3 else f0 x) n := ⟨_, hm6⟩
        obtain ⟨f6, hf6⟩ : ∃ f6 : Fli → Option Value, f6 = fun x => if x = was.fli then some v3 else f0 x := ⟨_, rfl⟩
        rw [← hf6] at hm6
        have hv6 : (f6 was.fli).getD (.slice none 0 0) = v3 := by rw [hf6]; simp
        have HM6 := Lib.hid hm6
        have HF6' := Lib.hid hf6
        have HV6 := Lib.hid hv6
        clear hu6 hU6 hb5 hb45 hbd hm6 hf6 hv6 HFS5 HFS KW
        obtain ⟨a3, c3, hf3⟩ := hO3.form
        subst hf3
        clear hO3
        go_upto_region 7 with fail
        have d0 := fun (z : Later W6) => z.cell c5
        have RF := Lib.hid (fun w' hx => later_range (fli_range HF6.out) w' hx)
        have HFL := Lib.hid (fun (w' : World) (hx : ∃ x : Later W6, w' = x.w) => (show MapF fliK w' fm f6 n6 from by obtain ⟨z, rfl⟩ := hx; exact (HM6.out.below z.h).toF))
        refine wp_region_later (by kernel_rfl) (by kernel_rfl) (Below.refl _ _) ?_
        repeat (first
          | go_big_quiet_skip
          | (go_big_quiet_want; first
            | (refine quiet_load_mid 65 _ rfl q7 0 rfl was.fli.cells _ RF.out Try.underlying65 rfl (fliRow was.fli) ?_; simp only [Act.put, List.setIfInBounds_toArray, List.set_cons_succ, List.set_cons_zero]; go_big_quiet_on)
            | (refine quiet_lookup fliOk _ _ 58 59 rfl Try.underlying58 (z := .slice none 0 0) (fun w => Try.zeroValue59 w) rfl HFL.out was.fli rfl ?_; rw [HV6.out]; simp only [Act.put, List.setIfInBounds_toArray, List.set_cons_succ, List.set_cons_zero]; go_big_quiet_on)
            | (go_big_quiet_op; go_big_quiet_on)))
        refine wpQuiet_nil ?_
        rintro ⟨W7, hb7⟩
        dsimp only
        clear d0 RF HFL
        have HM7 := Lib.hid (HM6.out.below hb7)
        have HU7 := Lib.hid (HU6.out.trans (Upd.ofBelow [fm] hb7))
        have HN7 := Lib.hid (kept hb7 HN6.out)
        have HF7 := Lib.hid (kept hb7 HF6.out)
        have HG7 := Lib.hid (kept hb7 HG6.out)
        have HO7 := Lib.hid (HO6.out.below hb7)
        have c57 := below_cell hb7 c5
        have hs7 := hb7.size
        clear hb7 c5 HU6 HN6 HF6 HG6 HO6 HM6
        cases hbe : but o.id (fl was.fli) with
        | nil =>
          have hlen0 : (but o.id (fl was.fli)).length = 0 := by rw [hbe]; rfl
          have HBE := Lib.hid hbe
          clear hbe
          go_upto_region 8 with fail
          have d0 := fun (z : Later W7) => z.cell c57
          have RF := Lib.hid (fun w' hx => later_range (fli_range HF7.out) w' hx)
          refine Mix.wp_region_mix_tail 5 [] [0, 1, 2, 3, 4] (fun w' => ∃ x : Later W7, w' = x.w) (by kernel_rfl) (by kernel_rfl) (Mix.later_drew W7) ?_
          simp only [List.take_succ_cons, List.take_zero, List.drop_succ_cons, List.drop_zero]
          refine Mix.stages_nil ?_
          simp only [Mix.pickL, List.getElem?_cons_zero, List.getElem?_cons_succ]
          repeat (first
            | go_big_quiet_skip
            | (go_big_quiet_want; first
              | (refine quiet_load_mid 65 _ rfl q7 0 rfl was.fli.cells _ RF.out Try.underlying65 rfl (fliRow was.fli) ?_; simp only [Act.put, List.setIfInBounds_toArray, List.set_cons_succ, List.set_cons_zero]; go_big_quiet_on)
              | (go_big_quiet_op; go_big_quiet_on)))
          refine wpQuiet_nil ?_
          clear d0 RF c57
          have hbe : Below W7.heap.size W7 W7.drew := (Below.refl _ _).drew
          have HMe := Lib.hid (HM7.out.below hbe)
          have HUe := Lib.hid (HU7.out.trans (Upd.ofBelow [fm] hbe))
          have HNe := Lib.hid (kept hbe HN7.out)
          have HFe := Lib.hid (kept hbe HF7.out)
          have HGe := Lib.hid (kept hbe HG7.out)
          have HOe := Lib.hid (HO7.out.below hbe)
          have hse := hbe.size
          generalize W7.drew = We at hbe HMe HUe HNe HFe HGe HOe hse ⊢
          clear hbe
          go_wp2_with (refine wl_deleteS fliOk rfl _ _ 58 59 _ rfl rfl Try.underlying58 rfl HMe.out was.fli rfl ?_; intro W8 hu8 hm8)
          simp only [Mix.OnlyN]
          have hs8 := hu8.size
          have HU8 := Lib.hid (HUe.out.trans hu8)
          have HN8 := Lib.hid (hu8.heap (nin _ x0) HNe.out)
          have HF8 := Lib.hid (hu8.heap (nin _ x7) HFe.out)
          have HG8 := Lib.hid (hu8.heap (nin _ x8) HGe.out)
          have HO8 := Lib.hid (HOe.out.upd hu8 (fun k hk => by have := HL3.out k hk; simp; omega))
          have HM8 : Hid (∃ n, MapS fliK W8 fm (fun f => if (if f = was.fli then but o.id (fl was.fli) else fl f) = [] then none else some (if f = was.fli then .slice a3 (but o.id (fl was.fli)).length c3 else sl f)) n) := Lib.hid ⟨_, hm8.congr (fun x => by
            by_cases hx : x = was.fli
            · rw [if_pos hx, if_pos hx, HBE.out, if_pos rfl]
            · rw [if_neg hx, if_neg hx, if_neg hx, HF6'.out]
              dsimp only
              rw [if_neg hx, HF0.out])⟩
          clear hu8 hm8 HUe HNe HFe HGe HOe HMe HU7 HN7 HF7 HG7 HO7 HM7
          have N8 := Lib.hid (N4d.out.flt (g := was.fli) (v' := .slice a3 (but o.id (fl was.fli)).length c3) (l' := but o.id (fl was.fli)) HU8.out (fun k hk => .inl (by simpa using hk)) HM8.out (fun _ => HO8.out) (fun _ k hk => .inr (HL3.out k hk)))
          have hW4 : w.heap.size < W4.heap.size ∧ q7 < W4.heap.size ∧ q8 < W4.heap.size := by omega
          replace x0 := notGr (W' := W8) x0 hW4.1
          replace x7 := notGr (W' := W8) x7 hW4.2.1
          replace x8 := notGr (W' := W8) x8 hW4.2.2
          have HNx := HN8
          have HFx := HF8
          have HGx := HG8
          clear HN8 HF8 HG8 HU8 HM8 HO8 N4d N4 HN4 HF4 HG4 r7 r8 kst
          go_upto_region 9 with fail
          have c4 := N8.out.m.box.get (i := 4) rfl
          have k0 : W8.cell? ⟨w.heap.size, 0, none⟩ = some (.int .i64 o.id) := by simpa using (op_range HNx.out) 0 _ rfl
          have d0 := fun (z : Later W8) => z.cell c4
          have d1 := fun (z : Later W8) => z.cell k0
          have RT := Lib.hid (fun w' hx => later_range (op_range HNx.out) w' hx)
          clear c4 k0
          refine Mix.wp_region_mix_tail 7 [] [0, 1, 2, 3, 4, 5, 6] (fun w' => ∃ x : Later W8, w' = x.w) (by kernel_rfl) (by kernel_rfl) (Mix.later_drew W8) ?_
          simp only [List.take_succ_cons, List.take_zero, List.drop_succ_cons, List.drop_zero]
          refine Mix.stages_nil ?_
          simp only [Mix.pickL, List.getElem?_cons_zero, List.getElem?_cons_succ]
          repeat (first
            | go_big_quiet_skip
            | (go_big_quiet_want; first
              | (refine quiet_load_mid 30 _ rfl w.heap.size 0 rfl o.cells _ RT.out Try.underlying30 rfl (opRow o) ?_; simp only [Act.put, List.setIfInBounds_toArray, List.set_cons_succ, List.set_cons_zero]; go_big_quiet_on)
              | (go_big_quiet_op; go_big_quiet_on)))
          refine wpQuiet_nil ?_
          clear d0 d1 RT
          have hbo : Below W8.heap.size W8 W8.drew := (Below.refl _ _).drew
          have N8b := Lib.hid (N8.out.below hbo)
          have HNy := Lib.hid (kept hbo HNx.out)
          have HFy := Lib.hid (kept hbo HFx.out)
          have HGy := Lib.hid (kept hbo HGx.out)
          have hszo := hbo.size
          generalize W8.drew = W9 at hbo N8b HNy HFy HGy hszo ⊢
          obtain ⟨nop, hop⟩ := N8b.out.m.ops
          have HOP := Lib.hid hop
          clear hop hbo
          go_wp2_with (refine wl_update (intK_ok Try.underlying3) rfl _ _ _ 57 30 rfl Try.underlying57 rfl HOP.out o.id rfl (opR.val o) rfl ?_; intro W10 huo hmo)
          simp only [Mix.OnlyN]
          have N10 := Lib.hid (N8b.out.ops huo hmo)
          have nin : ∀ k, ¬ (Gr T W4 W8) k → k ∉ [m] := fun k hk hin => by simp at hin; subst hin; exact hk N8b.out.m.tT.2.1
          have HNz := Lib.hid (huo.heap (nin _ x0) HNy.out)
          have HFz := Lib.hid (huo.heap (nin _ x7) HFy.out)
          have HGz := Lib.hid (huo.heap (nin _ x8) HGy.out)
          have hszm := huo.size
          clear huo hmo HOP nin HNy HFy HGy
          have kst2 : W10.cell? ⟨w.heap.size, 8, none⟩ = some (.int .i64 o.st) := by simpa using (op_range HNz.out) 8 _ rfl
          have KE := Lib.hid (end_any (Gr T W4 W8) W10 t keep next _ _ m fm _ _ _ _ _ N10.out.m o (by omega) (by omega) hkeep)
          go_wp2_with (first
            | (go_at_call 26; refine (KO.out _).mono ?_; rintro e w' ⟨rfl, rfl⟩)
            | (refine wpList_load_mid rfl 30 _ rfl w.heap.size 0 rfl o.cells _ (op_range HNz.out) Try.underlying30 rfl (opRow o) ?_)
            | (go_at_call 29; refine KE.out.mono ?_; rintro e W11 ⟨rfl, hu11, lv11, ev11, hm11⟩))
          go_ret
          exact FIN.out _ _ _ _ _ (N10.out.step hu11 hm11 (fun k hk => hk))
        | cons y ys =>
          have hlen0 : (((but o.id (fl was.fli)).length : Int) == 0) = false := by rw [hbe]; simp; omega
          have HBE := Lib.hid (show but o.id (fl was.fli) ≠ [] from by rw [hbe]; simp)
          clear hbe
          have HU8 := HU7
          have HN8 := HN7
          have HF8 := HF7
          have HG8 := HG7
          have HO8 := HO7
          have HM8 : Hid (∃ n, MapS fliK W7 fm (fun f => if (if f = was.fli then but o.id (fl was.fli) else fl f) = [] then none else some (if f = was.fli then .slice a3 (but o.id (fl was.fli)).length c3 else sl f)) n) := Lib.hid ⟨_, HM7.out.congr (fun x => by
            rw [HF6'.out]
            by_cases hx : x = was.fli
            · simp only [if_pos hx]
              rw [if_neg HBE.out]
            · simp only [if_neg hx]
              rw [HF0.out])⟩
          obtain ⟨W8, hW8⟩ : ∃ W8, W8 = W7 := ⟨_, rfl⟩
          subst hW8
          clear HU7 HN7 HF7 HG7 HO7 HM7 c57
          have N8 := Lib.hid (N4d.out.flt (g := was.fli) (v' := .slice a3 (but o.id (fl was.fli)).length c3) (l' := but o.id (fl was.fli)) HU8.out (fun k hk => .inl (by simpa using hk)) HM8.out (fun _ => HO8.out) (fun _ k hk => .inr (HL3.out k hk)))
          have hW4 : w.heap.size < W4.heap.size ∧ q7 < W4.heap.size ∧ q8 < W4.heap.size := by omega
          replace x0 := notGr (W' := W8) x0 hW4.1
          replace x7 := notGr (W' := W8) x7 hW4.2.1
          replace x8 := notGr (W' := W8) x8 hW4.2.2
          have HNx := HN8
          have HFx := HF8
          have HGx := HG8
          clear HN8 HF8 HG8 HU8 HM8 HO8 N4d N4 HN4 HF4 HG4 r7 r8 kst
          go_upto_region 9 with fail
          have c4 := N8.out.m.box.get (i := 4) rfl
          have k0 : W8.cell? ⟨w.heap.size, 0, none⟩ = some (.int .i64 o.id) := by simpa using (op_range HNx.out) 0 _ rfl
          have d0 := fun (z : Later W8) => z.cell c4
          have d1 := fun (z : Later W8) => z.cell k0
          have RT := Lib.hid (fun w' hx => later_range (op_range HNx.out) w' hx)
          clear c4 k0
          refine Mix.wp_region_mix_tail 7 [] [0, 1, 2, 3, 4, 5, 6] (fun w' => ∃ x : Later W8, w' = x.w) (by kernel_rfl) (by kernel_rfl) (Mix.later_drew W8) ?_
          simp only [List.take_succ_cons, List.take_zero, List.drop_succ_cons, List.drop_zero]
          refine Mix.stages_nil ?_
          simp only [Mix.pickL, List.getElem?_cons_zero, List.getElem?_cons_succ]
          repeat (first
            | go_big_quiet_skip
            | (go_big_quiet_want; first
              | (refine quiet_load_mid 30 _ rfl w.heap.size 0 rfl o.cells _ RT.out Try.underlying30 rfl (opRow o) ?_; simp only [Act.put, List.setIfInBounds_toArray, List.set_cons_succ, List.set_cons_zero]; go_big_quiet_on)
              | (go_big_quiet_op; go_big_quiet_on)))
          refine wpQuiet_nil ?_
          clear d0 d1 RT
          have hbo : Below W8.heap.size W8 W8.drew := (Below.refl _ _).drew
          have N8b := Lib.hid (N8.out.below hbo)
          have HNy := Lib.hid (kept hbo HNx.out)
          have HFy := Lib.hid (kept hbo HFx.out)
          have HGy := Lib.hid (kept hbo HGx.out)
          have hszo := hbo.size
          generalize W8.drew = W9 at hbo N8b HNy HFy HGy hszo ⊢
          obtain ⟨nop, hop⟩ := N8b.out.m.ops
          have HOP := Lib.hid hop
          clear hop hbo
          go_wp2_with (refine wl_update (intK_ok Try.underlying3) rfl _ _ _ 57 30 rfl Try.underlying57 rfl HOP.out o.id rfl (opR.val o) rfl ?_; intro W10 huo hmo)
          simp only [Mix.OnlyN]
          have N10 := Lib.hid (N8b.out.ops huo hmo)
          have nin : ∀ k, ¬ (Gr T W4 W8) k → k ∉ [m] := fun k hk hin => by simp at hin; subst hin; exact hk N8b.out.m.tT.2.1
          have HNz := Lib.hid (huo.heap (nin _ x0) HNy.out)
          have HFz := Lib.hid (huo.heap (nin _ x7) HFy.out)
          have HGz := Lib.hid (huo.heap (nin _ x8) HGy.out)
          have hszm := huo.size
          clear huo hmo HOP nin HNy HFy HGy
          have kst2 : W10.cell? ⟨w.heap.size, 8, none⟩ = some (.int .i64 o.st) := by simpa using (op_range HNz.out) 8 _ rfl
          have KE := Lib.hid (end_any (Gr T W4 W8) W10 t keep next _ _ m fm _ _ _ _ _ N10.out.m o (by omega) (by omega) hkeep)
          go_wp2_with (first
            | (go_at_call 26; refine (KO.out _).mono ?_; rintro e w' ⟨rfl, rfl⟩)
            | (refine wpList_load_mid rfl 30 _ rfl w.heap.size 0 rfl o.cells _ (op_range HNz.out) Try.underlying30 rfl (opRow o) ?_)
            | (go_at_call 29; refine KE.out.mono ?_; rintro e W11 ⟨rfl, hu11, lv11, ev11, hm11⟩))
          go_ret
          exact FIN.out _ _ _ _ _ (N10.out.step hu11 hm11 (fun k hk => hk))
    · have HFG := Lib.hid hfg
      cases htm : term o.st with
      | true =>
        have ko := fun W => terminal_any o.st W
        rw [htm] at ko
        have KO := Lib.hid ko
        have eA : setA A o = but o.id A := by unfold setA; rw [htm]; rfl
        have eD : setD keep D o = endD keep D o.id := by unfold setD; rw [htm]; rfl
        have eM : setM keep D M o = endM keep D o.id (oneM M o) := by unfold setM; rw [htm]; rfl
        have eF : setF fl was o = updF fl was.fli (but o.id (fl was.fli)) := by unfold setF; rw [htm, if_pos rfl]
        have FIN : Hid (∀ (W : World) (T' : Nat → Prop) (lv' ev' : Value) (sl' : Fli → Value), Now T w W T' t keep next lv' ev' m fm sl' (but o.id A) (endD keep D o.id) (endM keep D o.id (oneM M o)) (updF fl was.fli (but o.id (fl was.fli))) → SetP T w t keep next m fm A D M fl was o (.returned (.bool true)) W) := Lib.hid (fun W T' lv' ev' sl' hn => ⟨rfl, hn.u, lv', ev', sl', by rw [eA, eD, eM, eF]; exact hn.fin hlt0⟩)
        clear ko eA eD eM eF htm hfg
        go_upto_region 6 with (first
          | (refine wpList_load_mid rfl 65 _ rfl q7 0 rfl was.fli.cells _ r7 Try.underlying65 rfl (fliRow was.fli) ?_)
          | (refine wpList_load_mid rfl 65 _ rfl q8 0 rfl o.fli.cells _ r8 Try.underlying65 rfl (fliRow o.fli) ?_)
          | (refine wl_neqF rfl _ _ _ rfl was.fli o.fli rfl rfl ?_; rw [decide_eq_false HFG.out])
          | (go_at_call 26; refine (KO.out _).mono ?_; rintro e w' ⟨rfl, rfl⟩))
        have c5 := N4.out.m.box.get (i := 5) rfl
        have k0 : wc.cell? ⟨w.heap.size, 0, none⟩ = some (.int .i64 o.id) := by simpa using (op_range HN4.out) 0 _ rfl
        have d0 := fun (z : Later wc) => z.cell c5
        have d1 := fun (z : Later wc) => z.cell k0
        have RF := Lib.hid (fun w' hx => later_range (fli_range HF4.out) w' hx)
        obtain ⟨v0, hv0, hO0, -⟩ := own0 N4.out.m was.fli
        obtain ⟨nfl, hfl4⟩ := N4.out.m.fls
        obtain ⟨f0, hf0⟩ : ∃ f0 : Fli → Option Value, f0 = fun f => if fl f = [] then none else some (sl f) := ⟨_, rfl⟩
        rw [← hf0] at hfl4
        have hv00 : (f0 was.fli).getD (.slice none 0 0) = v0 := by rw [hf0, hv0]
        have HV0 := Lib.hid hv00
        have HF0 := Lib.hid hf0
        have HFL := Lib.hid (fun (w' : World) (hx : ∃ x : Later wc, w' = x.w) => (show MapF fliK w' fm f0 nfl from by obtain ⟨z, rfl⟩ := hx; exact (hfl4.below z.h).toF))
        have HFS := Lib.hid hfl4
        have HO0 := Lib.hid hO0
        clear c5 k0 hv0 hO0 hfl4 hv00 hf0
        refine Mix.wp_region_mix_tail 14 [([0, 1, 2, 3, 4, 5, 6, 7, 8, 9, 10, 11, 12], 13)] [] (fun w' => ∃ x : Later wc, w' = x.w) (by kernel_rfl) (by kernel_rfl) (Mix.later_drew wc) ?_
        simp only [List.take_succ_cons, List.take_zero, List.drop_succ_cons, List.drop_zero]
        have hbd : Below wc.heap.size wc wc.drew := (Below.refl _ _).drew
        generalize wc.drew = W4 at hbd ⊢
        refine Mix.stages_cons ?_
        simp only [Mix.pickL, List.getElem?_cons_zero, List.getElem?_cons_succ]
        repeat (first
          | go_big_quiet_skip
          | (go_big_quiet_want; first
            | (refine quiet_load_mid 65 _ rfl q7 0 rfl was.fli.cells _ RF.out Try.underlying65 rfl (fliRow was.fli) ?_; simp only [Act.put, List.setIfInBounds_toArray, List.set_cons_succ, List.set_cons_zero]; go_big_quiet_on)
            | (refine quiet_lookup fliOk _ _ 58 59 rfl Try.underlying58 (z := .slice none 0 0) (fun w => Try.zeroValue59 w) rfl HFL.out was.fli rfl ?_; rw [HV0.out]; simp only [Act.put, List.setIfInBounds_toArray, List.set_cons_succ, List.set_cons_zero]; go_big_quiet_on)
            | (go_big_quiet_op; go_big_quiet_on)))
        refine wpQuiet_nil ?_
        clear d0 d1 RF HFL
        have N4d := Lib.hid (N4.out.below hbd)
        have KW := Lib.hid (without_any W4 v0 (fl was.fli) o.id ((HO0.out.below hbd).lts intOk) (by omega))
        go_wp2_with (go_at_call 28; refine KW.out.mono ?_; rintro e W5 ⟨v3, rfl, hb5, hO3⟩)
        have hb45 := bthen' hbd hb5
        refine Mix.onward_normal (W := wc) hb45 ?_
        refine Mix.stages_nil ?_
        simp only [Mix.pickL]
        refine wpQuiet_nil ?_
        have HFS5 := Lib.hid (HFS.out.below hb45)
        go_wp2_with (refine wl_updateS fliOk rfl _ _ _ 58 59 rfl Try.underlying58 rfl HFS5.out was.fli rfl v3 rfl ?_; intro W6 hu6 hm6)
        simp only [Mix.OnlyN]
        have hs4 := hbd.size
        have hs5 := hb5.size
        have hs6 := hu6.size
        have hfmT : T fm := N4.out.m.tT.2.2
        have nin : ∀ k, ¬ T k → k ∉ [fm] := fun k hk hin => by simp at hin; subst hin; exact hk hfmT
        have hU6 : Upd [fm] W4 W6 := (Upd.ofBelow [fm] hb5).trans hu6
        have HU6 := Lib.hid hU6
        have HN6 := Lib.hid (hU6.heap (nin _ x0) (kept hbd HN4.out))
        have HF6 := Lib.hid (hU6.heap (nin _ x7) (kept hbd HF4.out))
        have HG6 := Lib.hid (hU6.heap (nin _ x8) (kept hbd HG4.out))
        have hfml := hlt0 fm hfmT
        have HO6 := Lib.hid ((hO3.mono (Nat.zero_le _)).upd hu6 (fun k hk => by have := (hO3.lt k hk).1; simp; omega))
        have HL3 := Lib.hid (fun k (hk : v3.ownBlock = some k) => (hO3.lt k hk).1)
        have c5 : W6.cell? ⟨t, 5, none⟩ = some (.map (some fm)) := hU6.cell (by simpa using N4d.out.m.tm.2) (N4d.out.m.box.get (i := 5) rfl)
        obtain ⟨n6, hm6⟩ : ∃ n, MapS fliK W6 fm (fun x => if x = was.fli then some v3 else f0 x) n := ⟨_, hm6⟩
        obtain ⟨f6, hf6⟩ : ∃ f6 : Fli → Option Value, f6 = fun x => if x = was.fli then some v3 else f0 x := ⟨_, rfl⟩
        rw [← hf6] at hm6
        have hv6 : (f6 was.fli).getD (.slice none 0 0) = v3 := by rw [hf6]; simp
        have HM6 := Lib.hid hm6
        have HF6' := Lib.hid hf6
        have HV6 := Lib.hid hv6
        clear hu6 hU6 hb5 hb45 hbd hm6 hf6 hv6 HFS5 HFS KW
        obtain ⟨a3, c3, hf3⟩ := hO3.form
        subst hf3
        clear hO3
        go_upto_region 7 with fail
        have d0 := fun (z : Later W6) => z.cell c5
        have RF := Lib.hid (fun w' hx => later_range (fli_range HF6.out) w' hx)
        have HFL := Lib.hid (fun (w' : World) (hx : ∃ x : Later W6, w' = x.w) => (show MapF fliK w' fm f6 n6 from by obtain ⟨z, rfl⟩ := hx; exact (HM6.out.below z.h).toF))
        refine wp_region_later (by kernel_rfl) (by kernel_rfl) (Below.refl _ _) ?_
        repeat (first
          | go_big_quiet_skip
          | (go_big_quiet_want; first
            | (refine quiet_load_mid 65 _ rfl q7 0 rfl was.fli.cells _ RF.out Try.underlying65 rfl (fliRow was.fli) ?_; simp only [Act.put, List.setIfInBounds_toArray, List.set_cons_succ, List.set_cons_zero]; go_big_quiet_on)
            | (refine quiet_lookup fliOk _ _ 58 59 rfl Try.underlying58 (z := .slice none 0 0) (fun w => Try.zeroValue59 w) rfl HFL.out was.fli rfl ?_; rw [HV6.out]; simp only [Act.put, List.setIfInBounds_toArray, List.set_cons_succ, List.set_cons_zero]; go_big_quiet_on)
            | (go_big_quiet_op; go_big_quiet_on)))
        refine wpQuiet_nil ?_
        rintro ⟨W7, hb7⟩
        dsimp only
        clear d0 RF HFL
        have HM7 := Lib.hid (HM6.out.below hb7)
        have HU7 := Lib.hid (HU6.out.trans (Upd.ofBelow [fm] hb7))
        have HN7 := Lib.hid (kept hb7 HN6.out)
        have HF7 := Lib.hid (kept hb7 HF6.out)
        have HG7 := Lib.hid (kept hb7 HG6.out)
        have HO7 := Lib.hid (HO6.out.below hb7)
        have c57 := below_cell hb7 c5
        have hs7 := hb7.size
        clear hb7 c5 HU6 HN6 HF6 HG6 HO6 HM6
        cases hbe : but o.id (fl was.fli) with
        | nil =>
          have hlen0 : (but o.id (fl was.fli)).length = 0 := by rw [hbe]; rfl
          have HBE := Lib.hid hbe
          clear hbe
          go_upto_region 8 with fail
          have d0 := fun (z : Later W7) => z.cell c57
          have RF := Lib.hid (fun w' hx => later_range (fli_range HF7.out) w' hx)
          refine Mix.wp_region_mix_tail 5 [] [0, 1, 2, 3, 4] (fun w' => ∃ x : Later W7, w' = x.w) (by kernel_rfl) (by kernel_rfl) (Mix.later_drew W7) ?_
          simp only [List.take_succ_cons, List.take_zero, List.drop_succ_cons, List.drop_zero]
          refine Mix.stages_nil ?_
          simp only [Mix.pickL, List.getElem?_cons_zero, List.getElem?_cons_succ]
          repeat (first
            | go_big_quiet_skip
            | (go_big_quiet_want; first
              | (refine quiet_load_mid 65 _ rfl q7 0 rfl was.fli.cells _ RF.out Try.underlying65 rfl (fliRow was.fli) ?_; simp only [Act.put, List.setIfInBounds_toArray, List.set_cons_succ, List.set_cons_zero]; go_big_quiet_on)
              | (go_big_quiet_op; go_big_quiet_on)))
          refine wpQuiet_nil ?_
          clear d0 RF c57
          have hbe : Below W7.heap.size W7 W7.drew := (Below.refl _ _).drew
          have HMe := Lib.hid (HM7.out.below hbe)
          have HUe := Lib.hid (HU7.out.trans (Upd.ofBelow [fm] hbe))
          have HNe := Lib.hid (kept hbe HN7.out)
          have HFe := Lib.hid (kept hbe HF7.out)
          have HGe := Lib.hid (kept hbe HG7.out)
          have HOe := Lib.hid (HO7.out.below hbe)
          have hse := hbe.size
          generalize W7.drew = We at hbe HMe HUe HNe HFe HGe HOe hse ⊢
          clear hbe
          go_wp2_with (refine wl_deleteS fliOk rfl _ _ 58 59 _ rfl rfl Try.underlying58 rfl HMe.out was.fli rfl ?_; intro W8 hu8 hm8)
          simp only [Mix.OnlyN]
          have hs8 := hu8.size
          have HU8 := Lib.hid (HUe.out.trans hu8)
          have HN8 := Lib.hid (hu8.heap (nin _ x0) HNe.out)
          have HF8 := Lib.hid (hu8.heap (nin _ x7) HFe.out)
          have HG8 := Lib.hid (hu8.heap (nin _ x8) HGe.out)
          have HO8 := Lib.hid (HOe.out.upd hu8 (fun k hk => by have := HL3.out k hk; simp; omega))
          have HM8 : Hid (∃ n, MapS fliK W8 fm (fun f => if (if f = was.fli then but o.id (fl was.fli) else fl f) = [] then none else some (if f = was.fli then .slice a3 (but o.id (fl was.fli)).length c3 else sl f)) n) := Lib.hid ⟨_, hm8.congr (fun x => by
            by_cases hx : x = was.fli
            · rw [if_pos hx, if_pos hx, HBE.out, if_pos rfl]
            · rw [if_neg hx, if_neg hx, if_neg hx, HF6'.out]
              dsimp only
              rw [if_neg hx, HF0.out])⟩
          clear hu8 hm8 HUe HNe HFe HGe HOe HMe HU7 HN7 HF7 HG7 HO7 HM7
          have N8 := Lib.hid (N4d.out.flt (g := was.fli) (v' := .slice a3 (but o.id (fl was.fli)).length c3) (l' := but o.id (fl was.fli)) HU8.out (fun k hk => .inl (by simpa using hk)) HM8.out (fun _ => HO8.out) (fun _ k hk => .inr (HL3.out k hk)))
          have hW4 : w.heap.size < W4.heap.size ∧ q7 < W4.heap.size ∧ q8 < W4.heap.size := by omega
          replace x0 := notGr (W' := W8) x0 hW4.1
          replace x7 := notGr (W' := W8) x7 hW4.2.1
          replace x8 := notGr (W' := W8) x8 hW4.2.2
          have HNx := HN8
          have HFx := HF8
          have HGx := HG8
          clear HN8 HF8 HG8 HU8 HM8 HO8 N4d N4 HN4 HF4 HG4 r7 r8 kst
          go_upto_region 9 with fail
          have c4 := N8.out.m.box.get (i := 4) rfl
          have k0 : W8.cell? ⟨w.heap.size, 0, none⟩ = some (.int .i64 o.id) := by simpa using (op_range HNx.out) 0 _ rfl
          have d0 := fun (z : Later W8) => z.cell c4
          have d1 := fun (z : Later W8) => z.cell k0
          have RT := Lib.hid (fun w' hx => later_range (op_range HNx.out) w' hx)
          clear c4 k0
          refine Mix.wp_region_mix_tail 7 [] [0, 1, 2, 3, 4, 5, 6] (fun w' => ∃ x : Later W8, w' = x.w) (by kernel_rfl) (by kernel_rfl) (Mix.later_drew W8) ?_
          simp only [List.take_succ_cons, List.take_zero, List.drop_succ_cons, List.drop_zero]
          refine Mix.stages_nil ?_
          simp only [Mix.pickL, List.getElem?_cons_zero, List.getElem?_cons_succ]
          repeat (first
            | go_big_quiet_skip
            | (go_big_quiet_want; first
              | (refine quiet_load_mid 30 _ rfl w.heap.size 0 rfl o.cells _ RT.out Try.underlying30 rfl (opRow o) ?_; simp only [Act.put, List.setIfInBounds_toArray, List.set_cons_succ, List.set_cons_zero]; go_big_quiet_on)
              | (go_big_quiet_op; go_big_quiet_on)))
          refine wpQuiet_nil ?_
          clear d0 d1 RT
          have hbo : Below W8.heap.size W8 W8.drew := (Below.refl _ _).drew
          have N8b := Lib.hid (N8.out.below hbo)
          have HNy := Lib.hid (kept hbo HNx.out)
          have HFy := Lib.hid (kept hbo HFx.out)
          have HGy := Lib.hid (kept hbo HGx.out)
          have hszo := hbo.size
          generalize W8.drew = W9 at hbo N8b HNy HFy HGy hszo ⊢
          obtain ⟨nop, hop⟩ := N8b.out.m.ops
          have HOP := Lib.hid hop
          clear hop hbo
          go_wp2_with (refine wl_update (intK_ok Try.underlying3) rfl _ _ _ 57 30 rfl Try.underlying57 rfl HOP.out o.id rfl (opR.val o) rfl ?_; intro W10 huo hmo)
          simp only [Mix.OnlyN]
          have N10 := Lib.hid (N8b.out.ops huo hmo)
          have nin : ∀ k, ¬ (Gr T W4 W8) k → k ∉ [m] := fun k hk hin => by simp at hin; subst hin; exact hk N8b.out.m.tT.2.1
          have HNz := Lib.hid (huo.heap (nin _ x0) HNy.out)
          have HFz := Lib.hid (huo.heap (nin _ x7) HFy.out)
          have HGz := Lib.hid (huo.heap (nin _ x8) HGy.out)
          have hszm := huo.size
          clear huo hmo HOP nin HNy HFy HGy
          have kst2 : W10.cell? ⟨w.heap.size, 8, none⟩ = some (.int .i64 o.st) := by simpa using (op_range HNz.out) 8 _ rfl
          have KE := Lib.hid (end_any (Gr T W4 W8) W10 t keep next _ _ m fm _ _ _ _ _ N10.out.m o (by omega) (by omega) hkeep)
          go_wp2_with (first
            | (go_at_call 26; refine (KO.out _).mono ?_; rintro e w' ⟨rfl, rfl⟩)
            | (refine wpList_load_mid rfl 30 _ rfl w.heap.size 0 rfl o.cells _ (op_range HNz.out) Try.underlying30 rfl (opRow o) ?_)
            | (go_at_call 29; refine KE.out.mono ?_; rintro e W11 ⟨rfl, hu11, lv11, ev11, hm11⟩))
          go_ret
          exact FIN.out _ _ _ _ _ (N10.out.step hu11 hm11 (fun k hk => hk))
        | cons y ys =>
          have hlen0 : (((but o.id (fl was.fli)).length : Int) == 0) = false := by rw [hbe]; simp; omega
          have HBE := Lib.hid (show but o.id (fl was.fli) ≠ [] from by rw [hbe]; simp)
          clear hbe
          have HU8 := HU7
          have HN8 := HN7
          have HF8 := HF7
          have HG8 := HG7
          have HO8 := HO7
          have HM8 : Hid (∃ n, MapS fliK W7 fm (fun f => if (if f = was.fli then but o.id (fl was.fli) else fl f) = [] then none else some (if f = was.fli then .slice a3 (but o.id (fl was.fli)).length c3 else sl f)) n) := Lib.hid ⟨_, HM7.out.congr (fun x => by
            rw [HF6'.out]
            by_cases hx : x = was.fli
            · simp only [if_pos hx]
              rw [if_neg HBE.out]
            · simp only [if_neg hx]
              rw [HF0.out])⟩
          obtain ⟨W8, hW8⟩ : ∃ W8, W8 = W7 := ⟨_, rfl⟩
          subst hW8
          clear HU7 HN7 HF7 HG7 HO7 HM7 c57
          have N8 := Lib.hid (N4d.out.flt (g := was.fli) (v' := .slice a3 (but o.id (fl was.fli)).length c3) (l' := but o.id (fl was.fli)) HU8.out (fun k hk => .inl (by simpa using hk)) HM8.out (fun _ => HO8.out) (fun _ k hk => .inr (HL3.out k hk)))
          have hW4 : w.heap.size < W4.heap.size ∧ q7 < W4.heap.size ∧ q8 < W4.heap.size := by omega
          replace x0 := notGr (W' := W8) x0 hW4.1
          replace x7 := notGr (W' := W8) x7 hW4.2.1
          replace x8 := notGr (W' := W8) x8 hW4.2.2
          have HNx := HN8
          have HFx := HF8
          have HGx := HG8
          clear HN8 HF8 HG8 HU8 HM8 HO8 N4d N4 HN4 HF4 HG4 r7 r8 kst
          go_upto_region 9 with fail
          have c4 := N8.out.m.box.get (i := 4) rfl
          have k0 : W8.cell? ⟨w.heap.size, 0, none⟩ = some (.int .i64 o.id) := by simpa using (op_range HNx.out) 0 _ rfl
          have d0 := fun (z : Later W8) => z.cell c4
          have d1 := fun (z : Later W8) => z.cell k0
          have RT := Lib.hid (fun w' hx => later_range (op_range HNx.out) w' hx)
          clear c4 k0
          refine Mix.wp_region_mix_tail 7 [] [0, 1, 2, 3, 4, 5, 6] (fun w' => ∃ x : Later W8, w' = x.w) (by kernel_rfl) (by kernel_rfl) (Mix.later_drew W8) ?_
          simp only [List.take_succ_cons, List.take_zero, List.drop_succ_cons, List.drop_zero]
          refine Mix.stages_nil ?_
          simp only [Mix.pickL, List.getElem?_cons_zero, List.getElem?_cons_succ]
          repeat (first
            | go_big_quiet_skip
            | (go_big_quiet_want; first
              | (refine quiet_load_mid 30 _ rfl w.heap.size 0 rfl o.cells _ RT.out Try.underlying30 rfl (opRow o) ?_; simp only [Act.put, List.setIfInBounds_toArray, List.set_cons_succ, List.set_cons_zero]; go_big_quiet_on)
              | (go_big_quiet_op; go_big_quiet_on)))
          refine wpQuiet_nil ?_
          clear d0 d1 RT
          have hbo : Below W8.heap.size W8 W8.drew := (Below.refl _ _).drew
          have N8b := Lib.hid (N8.out.below hbo)
          have HNy := Lib.hid (kept hbo HNx.out)
          have HFy := Lib.hid (kept hbo HFx.out)
          have HGy := Lib.hid (kept hbo HGx.out)
          have hszo := hbo.size
          generalize W8.drew = W9 at hbo N8b HNy HFy HGy hszo ⊢
          obtain ⟨nop, hop⟩ := N8b.out.m.ops
          have HOP := Lib.hid hop
          clear hop hbo
          go_wp2_with (refine wl_update (intK_ok Try.underlying3) rfl _ _ _ 57 30 rfl Try.underlying57 rfl HOP.out o.id rfl (opR.val o) rfl ?_; intro W10 huo hmo)
          simp only [Mix.OnlyN]
          have N10 := Lib.hid (N8b.out.ops huo hmo)
          have nin : ∀ k, ¬ (Gr T W4 W8) k → k ∉ [m] := fun k hk hin => by simp at hin; subst hin; exact hk N8b.out.m.tT.2.1
          have HNz := Lib.hid (huo.heap (nin _ x0) HNy.out)
          have HFz := Lib.hid (huo.heap (nin _ x7) HFy.out)
          have HGz := Lib.hid (huo.heap (nin _ x8) HGy.out)
          have hszm := huo.size
          clear huo hmo HOP nin HNy HFy HGy
          have kst2 : W10.cell? ⟨w.heap.size, 8, none⟩ = some (.int .i64 o.st) := by simpa using (op_range HNz.out) 8 _ rfl
          have KE := Lib.hid (end_any (Gr T W4 W8) W10 t keep next _ _ m fm _ _ _ _ _ N10.out.m o (by omega) (by omega) hkeep)
          go_wp2_with (first
            | (go_at_call 26; refine (KO.out _).mono ?_; rintro e w' ⟨rfl, rfl⟩)
            | (refine wpList_load_mid rfl 30 _ rfl w.heap.size 0 rfl o.cells _ (op_range HNz.out) Try.underlying30 rfl (opRow o) ?_)
            | (go_at_call 29; refine KE.out.mono ?_; rintro e W11 ⟨rfl, hu11, lv11, ev11, hm11⟩))
          go_ret
          exact FIN.out _ _ _ _ _ (N10.out.step hu11 hm11 (fun k hk => hk))
      | false =>
        have ko := fun W => terminal_any o.st W
        rw [htm] at ko
        have KO := Lib.hid ko
        have eA : setA A o = A := by unfold setA; rw [htm]; rfl
        have eD : setD keep D o = D := by unfold setD; rw [htm]; rfl
        have eM : setM keep D M o = oneM M o := by unfold setM; rw [htm]; rfl
        have eF : setF fl was o = updF (updF fl was.fli (but o.id (fl was.fli))) o.fli ((fl o.fli ++ [o.id]).mergeSort fun x y => decide (x ≤ y)) := by unfold setF; rw [htm, if_neg (by simp), if_neg hfg]
        have FIN : Hid (∀ (W : World) (T' : Nat → Prop) (lv' ev' : Value) (sl' : Fli → Value) (flX : Fli → List Int), Now T w W T' t keep next lv' ev' m fm sl' A D (oneM M o) flX → flX = updF (updF fl was.fli (but o.id (fl was.fli))) o.fli ((fl o.fli ++ [o.id]).mergeSort fun x y => decide (x ≤ y)) → SetP T w t keep next m fm A D M fl was o (.returned (.bool true)) W) := Lib.hid (fun W T' lv' ev' sl' flX hn hX => ⟨rfl, hn.u, lv', ev', sl', by rw [eA, eD, eM, eF, ← hX]; exact hn.fin hlt0⟩)
        clear ko eA eD eM eF htm hfg
        go_upto_region 6 with (first
          | (refine wpList_load_mid rfl 65 _ rfl q7 0 rfl was.fli.cells _ r7 Try.underlying65 rfl (fliRow was.fli) ?_)
          | (refine wpList_load_mid rfl 65 _ rfl q8 0 rfl o.fli.cells _ r8 Try.underlying65 rfl (fliRow o.fli) ?_)
          | (refine wl_neqF rfl _ _ _ rfl was.fli o.fli rfl rfl ?_; rw [decide_eq_false HFG.out])
          | (go_at_call 26; refine (KO.out _).mono ?_; rintro e w' ⟨rfl, rfl⟩))
        have c5 := N4.out.m.box.get (i := 5) rfl
        have k0 : wc.cell? ⟨w.heap.size, 0, none⟩ = some (.int .i64 o.id) := by simpa using (op_range HN4.out) 0 _ rfl
        have d0 := fun (z : Later wc) => z.cell c5
        have d1 := fun (z : Later wc) => z.cell k0
        have RF := Lib.hid (fun w' hx => later_range (fli_range HF4.out) w' hx)
        obtain ⟨v0, hv0, hO0, -⟩ := own0 N4.out.m was.fli
        obtain ⟨nfl, hfl4⟩ := N4.out.m.fls
        obtain ⟨f0, hf0⟩ : ∃ f0 : Fli → Option Value, f0 = fun f => if fl f = [] then none else some (sl f) := ⟨_, rfl⟩
        rw [← hf0] at hfl4
        have hv00 : (f0 was.fli).getD (.slice none 0 0) = v0 := by rw [hf0, hv0]
        have HV0 := Lib.hid hv00
        have HF0 := Lib.hid hf0
        have HFL := Lib.hid (fun (w' : World) (hx : ∃ x : Later wc, w' = x.w) => (show MapF fliK w' fm f0 nfl from by obtain ⟨z, rfl⟩ := hx; exact (hfl4.below z.h).toF))
        have HFS := Lib.hid hfl4
        have HO0 := Lib.hid hO0
        clear c5 k0 hv0 hO0 hfl4 hv00 hf0
        refine Mix.wp_region_mix_tail 14 [([0, 1, 2, 3, 4, 5, 6, 7, 8, 9, 10, 11, 12], 13)] [] (fun w' => ∃ x : Later wc, w' = x.w) (by kernel_rfl) (by kernel_rfl) (Mix.later_drew wc) ?_
        simp only [List.take_succ_cons, List.take_zero, List.drop_succ_cons, List.drop_zero]
        have hbd : Below wc.heap.size wc wc.drew := (Below.refl _ _).drew
        generalize wc.drew = W4 at hbd ⊢
        refine Mix.stages_cons ?_
        simp only [Mix.pickL, List.getElem?_cons_zero, List.getElem?_cons_succ]
        repeat (first
          | go_big_quiet_skip
          | (go_big_quiet_want; first
            | (refine quiet_load_mid 65 _ rfl q7 0 rfl was.fli.cells _ RF.out Try.underlying65 rfl (fliRow was.fli) ?_; simp only [Act.put, List.setIfInBounds_toArray, List.set_cons_succ, List.set_cons_zero]; go_big_quiet_on)
            | (refine quiet_lookup fliOk _ _ 58 59 rfl Try.underlying58 (z := .slice none 0 0) (fun w => Try.zeroValue59 w) rfl HFL.out was.fli rfl ?_; rw [HV0.out]; simp only [Act.put, List.setIfInBounds_toArray, List.set_cons_succ, List.set_cons_zero]; go_big_quiet_on)
            | (go_big_quiet_op; go_big_quiet_on)))
        refine wpQuiet_nil ?_
        clear d0 d1 RF HFL
        have N4d := Lib.hid (N4.out.below hbd)
        have KW := Lib.hid (without_any W4 v0 (fl was.fli) o.id ((HO0.out.below hbd).lts intOk) (by omega))
        go_wp2_with (go_at_call 28; refine KW.out.mono ?_; rintro e W5 ⟨v3, rfl, hb5, hO3⟩)
        have hb45 := bthen' hbd hb5
        refine Mix.onward_normal (W := wc) hb45 ?_
        refine Mix.stages_nil ?_
        simp only [Mix.pickL]
        refine wpQuiet_nil ?_
        have HFS5 := Lib.hid (HFS.out.below hb45)
        go_wp2_with (refine wl_updateS fliOk rfl _ _ _ 58 59 rfl Try.underlying58 rfl HFS5.out was.fli rfl v3 rfl ?_; intro W6 hu6 hm6)
        simp only [Mix.OnlyN]
        have hs4 := hbd.size
        have hs5 := hb5.size
        have hs6 := hu6.size
        have hfmT : T fm := N4.out.m.tT.2.2
        have nin : ∀ k, ¬ T k → k ∉ [fm] := fun k hk hin => by simp at hin; subst hin; exact hk hfmT
        have hU6 : Upd [fm] W4 W6 := (Upd.ofBelow [fm] hb5).trans hu6
        have HU6 := Lib.hid hU6
        have HN6 := Lib.hid (hU6.heap (nin _ x0) (kept hbd HN4.out))
        have HF6 := Lib.hid (hU6.heap (nin _ x7) (kept hbd HF4.out))
        have HG6 := Lib.hid (hU6.heap (nin _ x8) (kept hbd HG4.out))
        have hfml := hlt0 fm hfmT
        have HO6 := Lib.hid ((hO3.mono (Nat.zero_le _)).upd hu6 (fun k hk => by have := (hO3.lt k hk).1; simp; omega))
        have HL3 := Lib.hid (fun k (hk : v3.ownBlock = some k) => (hO3.lt k hk).1)
        have c5 : W6.cell? ⟨t, 5, none⟩ = some (.map (some fm)) := hU6.cell (by simpa using N4d.out.m.tm.2) (N4d.out.m.box.get (i := 5) rfl)
        obtain ⟨n6, hm6⟩ : ∃ n, MapS fliK W6 fm (fun x => if x = was.fli then some v3 else f0 x) n := ⟨_, hm6⟩
        obtain ⟨f6, hf6⟩ : ∃ f6 : Fli → Option Value, f6 = fun x => if x = was.fli then some v3 else f0 x := ⟨_, rfl⟩
        rw [← hf6] at hm6
        have hv6 : (f6 was.fli).getD (.slice none 0 0) = v3 := by rw [hf6]; simp
        have HM6 := Lib.hid hm6
        have HF6' := Lib.hid hf6
        have HV6 := Lib.hid hv6
        clear hu6 hU6 hb5 hb45 hbd hm6 hf6 hv6 HFS5 HFS KW
        obtain ⟨a3, c3, hf3⟩ := hO3.form
        subst hf3
        clear hO3
        go_upto_region 7 with fail
        have d0 := fun (z : Later W6) => z.cell c5
        have RF := Lib.hid (fun w' hx => later_range (fli_range HF6.out) w' hx)
        have HFL := Lib.hid (fun (w' : World) (hx : ∃ x : Later W6, w' = x.w) => (show MapF fliK w' fm f6 n6 from by obtain ⟨z, rfl⟩ := hx; exact (HM6.out.below z.h).toF))
        refine wp_region_later (by kernel_rfl) (by kernel_rfl) (Below.refl _ _) ?_
        repeat (first
          | go_big_quiet_skip
          | (go_big_quiet_want; first
            | (refine quiet_load_mid 65 _ rfl q7 0 rfl was.fli.cells _ RF.out Try.underlying65 rfl (fliRow was.fli) ?_; simp only [Act.put, List.setIfInBounds_toArray, List.set_cons_succ, List.set_cons_zero]; go_big_quiet_on)
            | (refine quiet_lookup fliOk _ _ 58 59 rfl Try.underlying58 (z := .slice none 0 0) (fun w => Try.zeroValue59 w) rfl HFL.out was.fli rfl ?_; rw [HV6.out]; simp only [Act.put, List.setIfInBounds_toArray, List.set_cons_succ, List.set_cons_zero]; go_big_quiet_on)
            | (go_big_quiet_op; go_big_quiet_on)))
        refine wpQuiet_nil ?_
        rintro ⟨W7, hb7⟩
        dsimp only
        clear d0 RF HFL
        have HM7 := Lib.hid (HM6.out.below hb7)
        have HU7 := Lib.hid (HU6.out.trans (Upd.ofBelow [fm] hb7))
        have HN7 := Lib.hid (kept hb7 HN6.out)
        have HF7 := Lib.hid (kept hb7 HF6.out)
        have HG7 := Lib.hid (kept hb7 HG6.out)
        have HO7 := Lib.hid (HO6.out.below hb7)
        have c57 := below_cell hb7 c5
        have hs7 := hb7.size
        clear hb7 c5 HU6 HN6 HF6 HG6 HO6 HM6
        cases hbe : but o.id (fl was.fli) with
        | nil =>
          have hlen0 : (but o.id (fl was.fli)).length = 0 := by rw [hbe]; rfl
          have HBE := Lib.hid hbe
          clear hbe
          go_upto_region 8 with fail
          have d0 := fun (z : Later W7) => z.cell c57
          have RF := Lib.hid (fun w' hx => later_range (fli_range HF7.out) w' hx)
          refine Mix.wp_region_mix_tail 5 [] [0, 1, 2, 3, 4] (fun w' => ∃ x : Later W7, w' = x.w) (by kernel_rfl) (by kernel_rfl) (Mix.later_drew W7) ?_
          simp only [List.take_succ_cons, List.take_zero, List.drop_succ_cons, List.drop_zero]
          refine Mix.stages_nil ?_
          simp only [Mix.pickL, List.getElem?_cons_zero, List.getElem?_cons_succ]
          repeat (first
            | go_big_quiet_skip
            | (go_big_quiet_want; first
              | (refine quiet_load_mid 65 _ rfl q7 0 rfl was.fli.cells _ RF.out Try.underlying65 rfl (fliRow was.fli) ?_; simp only [Act.put, List.setIfInBounds_toArray, List.set_cons_succ, List.set_cons_zero]; go_big_quiet_on)
              | (go_big_quiet_op; go_big_quiet_on)))
          refine wpQuiet_nil ?_
          clear d0 RF c57
          have hbe : Below W7.heap.size W7 W7.drew := (Below.refl _ _).drew
          have HMe := Lib.hid (HM7.out.below hbe)
          have HUe := Lib.hid (HU7.out.trans (Upd.ofBelow [fm] hbe))
          have HNe := Lib.hid (kept hbe HN7.out)
          have HFe := Lib.hid (kept hbe HF7.out)
          have HGe := Lib.hid (kept hbe HG7.out)
          have HOe := Lib.hid (HO7.out.below hbe)
          have hse := hbe.size
          generalize W7.drew = We at hbe HMe HUe HNe HFe HGe HOe hse ⊢
          clear hbe
          go_wp2_with (refine wl_deleteS fliOk rfl _ _ 58 59 _ rfl rfl Try.underlying58 rfl HMe.out was.fli rfl ?_; intro W8 hu8 hm8)
          simp only [Mix.OnlyN]
          have hs8 := hu8.size
          have HU8 := Lib.hid (HUe.out.trans hu8)
          have HN8 := Lib.hid (hu8.heap (nin _ x0) HNe.out)
          have HF8 := Lib.hid (hu8.heap (nin _ x7) HFe.out)
          have HG8 := Lib.hid (hu8.heap (nin _ x8) HGe.out)
          have HO8 := Lib.hid (HOe.out.upd hu8 (fun k hk => by have := HL3.out k hk; simp; omega))
          have HM8 : Hid (∃ n, MapS fliK W8 fm (fun f => if (if f = was.fli then but o.id (fl was.fli) else fl f) = [] then none else some (if f = was.fli then .slice a3 (but o.id (fl was.fli)).length c3 else sl f)) n) := Lib.hid ⟨_, hm8.congr (fun x => by
            by_cases hx : x = was.fli
            · rw [if_pos hx, if_pos hx, HBE.out, if_pos rfl]
            · rw [if_neg hx, if_neg hx, if_neg hx, HF6'.out]
              dsimp only
              rw [if_neg hx, HF0.out])⟩
          clear hu8 hm8 HUe HNe HFe HGe HOe HMe HU7 HN7 HF7 HG7 HO7 HM7
          have N8 := Lib.hid (N4d.out.flt (g := was.fli) (v' := .slice a3 (but o.id (fl was.fli)).length c3) (l' := but o.id (fl was.fli)) HU8.out (fun k hk => .inl (by simpa using hk)) HM8.out (fun _ => HO8.out) (fun _ k hk => .inr (HL3.out k hk)))
          have hW4 : w.heap.size < W4.heap.size ∧ q7 < W4.heap.size ∧ q8 < W4.heap.size := by omega
          replace x0 := notGr (W' := W8) x0 hW4.1
          replace x7 := notGr (W' := W8) x7 hW4.2.1
          replace x8 := notGr (W' := W8) x8 hW4.2.2
          have HNx := HN8
          have HFx := HF8
          have HGx := HG8
          clear HN8 HF8 HG8 HU8 HM8 HO8 N4d N4 HN4 HF4 HG4 r7 r8 kst
          go_upto_region 9 with fail
          have c4 := N8.out.m.box.get (i := 4) rfl
          have k0 : W8.cell? ⟨w.heap.size, 0, none⟩ = some (.int .i64 o.id) := by simpa using (op_range HNx.out) 0 _ rfl
          have d0 := fun (z : Later W8) => z.cell c4
          have d1 := fun (z : Later W8) => z.cell k0
          have RT := Lib.hid (fun w' hx => later_range (op_range HNx.out) w' hx)
          clear c4 k0
          refine Mix.wp_region_mix_tail 7 [] [0, 1, 2, 3, 4, 5, 6] (fun w' => ∃ x : Later W8, w' = x.w) (by kernel_rfl) (by kernel_rfl) (Mix.later_drew W8) ?_
          simp only [List.take_succ_cons, List.take_zero, List.drop_succ_cons, List.drop_zero]
          refine Mix.stages_nil ?_
          simp only [Mix.pickL, List.getElem?_cons_zero, List.getElem?_cons_succ]
          repeat (first
            | go_big_quiet_skip
            | (go_big_quiet_want; first
              | (refine quiet_load_mid 30 _ rfl w.heap.size 0 rfl o.cells _ RT.out Try.underlying30 rfl (opRow o) ?_; simp only [Act.put, List.setIfInBounds_toArray, List.set_cons_succ, List.set_cons_zero]; go_big_quiet_on)
              | (go_big_quiet_op; go_big_quiet_on)))
          refine wpQuiet_nil ?_
          clear d0 d1 RT
          have hbo : Below W8.heap.size W8 W8.drew := (Below.refl _ _).drew
          have N8b := Lib.hid (N8.out.below hbo)
          have HNy := Lib.hid (kept hbo HNx.out)
          have HFy := Lib.hid (kept hbo HFx.out)
          have HGy := Lib.hid (kept hbo HGx.out)
          have hszo := hbo.size
          generalize W8.drew = W9 at hbo N8b HNy HFy HGy hszo ⊢
          obtain ⟨nop, hop⟩ := N8b.out.m.ops
          have HOP := Lib.hid hop
          clear hop hbo
          go_wp2_with (refine wl_update (intK_ok Try.underlying3) rfl _ _ _ 57 30 rfl Try.underlying57 rfl HOP.out o.id rfl (opR.val o) rfl ?_; intro W10 huo hmo)
          simp only [Mix.OnlyN]
          have N10 := Lib.hid (N8b.out.ops huo hmo)
          have nin : ∀ k, ¬ (Gr T W4 W8) k → k ∉ [m] := fun k hk hin => by simp at hin; subst hin; exact hk N8b.out.m.tT.2.1
          have HNz := Lib.hid (huo.heap (nin _ x0) HNy.out)
          have HFz := Lib.hid (huo.heap (nin _ x7) HFy.out)
          have HGz := Lib.hid (huo.heap (nin _ x8) HGy.out)
          have hszm := huo.size
          clear huo hmo HOP nin HNy HFy HGy
          have kst2 : W10.cell? ⟨w.heap.size, 8, none⟩ = some (.int .i64 o.st) := by simpa using (op_range HNz.out) 8 _ rfl
          obtain ⟨sl1, fl1, hfl1, NA⟩ : ∃ (sl1 : Fli → Value) (fl1 : Fli → List Int), fl1 = updF fl was.fli (but o.id (fl was.fli)) ∧ Hid (Now T w W10 (Gr T W4 W8) t keep next lv ev m fm sl1 A D (oneM M o) fl1) := ⟨_, _, rfl, N10⟩
          clear N10
          have hf1o : fl1 o.fli = fl o.fli := by rw [hfl1]; unfold updF; rw [if_neg (fun e => HFG.out e.symm)]
          have hlen1 : (fl1 o.fli).length ≤ 900 := by rw [hf1o]; exact hfl2
          have HFL1 := Lib.hid hfl1
          have HF1O := Lib.hid hf1o
          clear hfl1 hf1o
          go_upto_region 13 with (first
            | (go_at_call 26; refine (KO.out _).mono ?_; rintro e w' ⟨rfl, rfl⟩)
            | (refine wpList_load_mid rfl 65 _ rfl q7 0 rfl was.fli.cells _ (fli_range HFz.out) Try.underlying65 rfl (fliRow was.fli) ?_)
            | (refine wpList_load_mid rfl 65 _ rfl q8 0 rfl o.fli.cells _ (fli_range HGz.out) Try.underlying65 rfl (fliRow o.fli) ?_)
            | (refine wl_neqF rfl _ _ _ rfl was.fli o.fli rfl rfl ?_; rw [decide_eq_false HFG.out]))
          have hT10 : ∀ k, (Gr T W4 W8) k → k < W10.heap.size := NA.out.m.lt
          have hTf1 : (Gr T W4 W8) fm := NA.out.m.tT.2.2
          have htf : t ≠ fm := NA.out.m.tm.2
          have c5 := NA.out.m.box.get (i := 5) rfl
          have k0 : W10.cell? ⟨w.heap.size, 0, none⟩ = some (.int .i64 o.id) := by simpa using (op_range HNz.out) 0 _ rfl
          have rf := fli_range HGz.out
          have d0 := fun (z : Mix.InS (fun z => z.cell? ⟨t, 5, none⟩ = some (.map (some fm)) ∧ z.cell? ⟨w.heap.size, 0, none⟩ = some (.int .i64 o.id) ∧ z.rangeAt q8 0 o.fli.cells)) => z.h.1
          have d1 := fun (z : Mix.InS (fun z => z.cell? ⟨t, 5, none⟩ = some (.map (some fm)) ∧ z.cell? ⟨w.heap.size, 0, none⟩ = some (.int .i64 o.id) ∧ z.rangeAt q8 0 o.fli.cells)) => z.h.2.1
          have RT := Lib.hid (fun (w' : World) (hx : ∃ x : Mix.InS (fun z => z.cell? ⟨t, 5, none⟩ = some (.map (some fm)) ∧ z.cell? ⟨w.heap.size, 0, none⟩ = some (.int .i64 o.id) ∧ z.rangeAt q8 0 o.fli.cells), w' = x.w) => (show w'.rangeAt q8 0 o.fli.cells from by obtain ⟨z, rfl⟩ := hx; exact z.h.2.2))
          have hne : Nonempty (Mix.InS (fun z => z.cell? ⟨t, 5, none⟩ = some (.map (some fm)) ∧ z.cell? ⟨w.heap.size, 0, none⟩ = some (.int .i64 o.id) ∧ z.rangeAt q8 0 o.fli.cells)) := ⟨⟨W10, c5, k0, rf⟩⟩
          refine Mix.wp_region_mix [([0, 1, 2, 3, 4, 5, 6], 7), ([], 8), ([9, 11], 10), ([], 12)] [] (fun w' => ∃ x : Mix.InS (fun z => z.cell? ⟨t, 5, none⟩ = some (.map (some fm)) ∧ z.cell? ⟨w.heap.size, 0, none⟩ = some (.int .i64 o.id) ∧ z.rangeAt q8 0 o.fli.cells), w' = x.w) (by kernel_rfl) (by kernel_rfl) (Mix.inS_mk ⟨c5, k0, rf⟩) ?_
          have HB11 := Lib.hid (show Below W10.heap.size W10 W10.drew from (Below.refl _ _).drew)
          generalize W10.drew = W11 at HB11 ⊢
          refine Mix.stages_cons ?_
          simp only [Mix.pickL, List.getElem?_cons_zero, List.getElem?_cons_succ]
          repeat (first
            | go_big_quiet_skip
            | (go_big_quiet_want; first
              | (refine quiet_load_mid 65 _ rfl q8 0 rfl o.fli.cells _ RT.out Try.underlying65 rfl (fliRow o.fli) ?_; simp only [Act.put, List.setIfInBounds_toArray, List.set_cons_succ, List.set_cons_zero]; go_big_quiet_on)
              | (go_big_quiet_op; go_big_quiet_on)))
          refine wpQuiet_nil ?_
          go_wp2_with (refine wl_build_rec intOk rfl _ rfl o.id rfl ?_; have hx12 := built_range (R := intR) (w := W11) o.id; have hb12 : Below W11.heap.size W11 (W11.alloc (.cells (intR.val o.id).cells intR.ty)) := (Below.refl _ _).alloc (Nat.le_refl _) _; generalize W11.alloc (.cells (intR.val o.id).cells intR.ty) = W12 at hx12 hb12 ⊢)
          have HB12 := Lib.hid (bthen' HB11.out hb12)
          have N12 := Lib.hid (NA.out.below HB12.out)
          have HG12 := Lib.hid (kept HB12.out HGz.out)
          have HX12 := Lib.hid hx12
          have hk12 : W12.cell? ⟨t, 5, none⟩ = some (.map (some fm)) ∧ W12.cell? ⟨w.heap.size, 0, none⟩ = some (.int .i64 o.id) ∧ W12.rangeAt q8 0 o.fli.cells := ⟨below_cell HB12.out c5, below_cell HB12.out k0, below_range HB12.out rf⟩
          have hs11 := HB11.out.size
          have hs12 := HB12.out.size
          clear hx12 hb12
          refine Mix.onward_in hk12 ?_
          refine Mix.stages_cons ?_
          simp only [Mix.pickL, List.getElem?_cons_zero, List.getElem?_cons_succ]
          refine wpQuiet_nil ?_
          obtain ⟨n12, hfl12⟩ := N12.out.m.fls
          have HFLm := Lib.hid hfl12
          clear hfl12
          obtain ⟨v0, hv0, hO0, hown0⟩ := own0 N12.out.m o.fli
          have HV0' := Lib.hid hv0
          have HO0' := Lib.hid hO0
          clear hO0 hv0
          go_wp2_with (refine wl_entryS fliOk rfl _ _ 58 59 rfl Try.underlying58 (z := .slice none 0 0) (fun w => Try.zeroValue59 w) rfl HFLm.out o.fli rfl ?_; rw [← HV0'.out]; intro W13 st hu13 hE13)
          have hs13 := hu13.size
          have hk13 : W13.cell? ⟨t, 5, none⟩ = some (.map (some fm)) ∧ W13.cell? ⟨w.heap.size, 0, none⟩ = some (.int .i64 o.id) ∧ W13.rangeAt q8 0 o.fli.cells :=
            ⟨hu13.cell (by simpa using htf) hk12.1, hu13.cell (by simp; intro e; exact x0 (e ▸ hTf1)) hk12.2.1, hu13.range (by simp; intro e; exact x8 (e ▸ hTf1)) hk12.2.2⟩
          refine Mix.onward_in hk13 ?_
          refine Mix.stages_cons ?_
          simp only [Mix.pickL, List.getElem?_cons_zero, List.getElem?_cons_succ]
          repeat (first
            | go_big_quiet_skip
            | (go_big_quiet_want; (go_big_quiet_op; go_big_quiet_on)))
          refine wpQuiet_nil ?_
          have hv0m : ∀ k, v0.ownBlock = some k → k ≠ fm := fun k hk => (N12.out.m.ds o.fli (hown0 k hk).1 k (hown0 k hk).2).2.2.2.1
          have HO13 := Lib.hid (HO0'.out.upd hu13 (fun k hk => by simpa using hv0m k hk))
          have HX13 := Lib.hid (hu13.range (show W11.heap.size ∉ [fm] by simp; intro e; have := hT10 fm hTf1; omega) HX12.out)
          go_wp2_with (refine wl_append_rec intOk rfl _ _ rfl 0 _ (fl1 o.fli) rfl HO13.out W11.heap.size 0 1 o.id rfl HX13.out (by omega) (by omega) ?_; intro g14 cap14 W14 hO14 hg14 hat14)
          have hU14 : Upd v0.ownBlock.toList W13 W14 := upd_grown hg14
          have hF14 : ∀ k ∈ v0.ownBlock.toList, v0.ownBlock = some k := fun k hk => by simpa using hk
          have hno14 : ∀ k, (k = t ∨ k = fm ∨ k = w.heap.size ∨ k = q8) → k ∉ v0.ownBlock.toList := fun k hk hin => by
            obtain ⟨hg, ho⟩ := hown0 k (hF14 k hin)
            obtain ⟨a, b, c, d, -⟩ := N12.out.m.ds o.fli hg k ho
            rcases hk with rfl | rfl | rfl | rfl
            · exact b rfl
            · exact d rfl
            · exact x0 a
            · exact x8 a
          have hk14 : W14.cell? ⟨t, 5, none⟩ = some (.map (some fm)) ∧ W14.cell? ⟨w.heap.size, 0, none⟩ = some (.int .i64 o.id) ∧ W14.rangeAt q8 0 o.fli.cells :=
            ⟨hU14.cell (hno14 t (.inl rfl)) hk13.1, hU14.cell (hno14 _ (.inr (.inr (.inl rfl)))) hk13.2.1, hU14.range (hno14 _ (.inr (.inr (.inr rfl)))) hk13.2.2⟩
          refine Mix.onward_in hk14 ?_
          refine Mix.stages_cons ?_
          simp only [Mix.pickL, List.getElem?_cons_zero, List.getElem?_cons_succ]
          refine wpQuiet_nil ?_
          have HE14 := Lib.hid (hE13.upd hU14 (hno14 fm (.inr (.inl rfl))))
          clear hE13
          go_wp2_with (refine wl_entryStoreS rfl _ _ _ 58 rfl rfl o.fli st HE14.out rfl _ rfl ?_; intro W15 hu15 hm15)
          have hk15 : W15.cell? ⟨t, 5, none⟩ = some (.map (some fm)) ∧ W15.cell? ⟨w.heap.size, 0, none⟩ = some (.int .i64 o.id) ∧ W15.rangeAt q8 0 o.fli.cells :=
            ⟨hu15.cell (by simpa using htf) hk14.1, hu15.cell (by simp; intro e; exact x0 (e ▸ hTf1)) hk14.2.1, hu15.range (by simp; intro e; exact x8 (e ▸ hTf1)) hk14.2.2⟩
          refine Mix.onward_in hk15 ?_
          refine Mix.stages_nil ?_
          simp only [Mix.pickL]
          refine wpQuiet_nil ?_
          clear d0 d1 hne RT
          have hs14 := hU14.size
          have hs15 := hu15.size
          have hUall : Upd (fm :: v0.ownBlock.toList) W12 W15 := ((hu13.mono (by simp)).trans (hU14.mono (fun i hi => List.mem_cons_of_mem _ hi))).trans (hu15.mono (by simp))
          have hfm12 : fm < W12.heap.size := N12.out.m.lt fm hTf1
          have HG15 := Lib.hid (hUall.heap (show q8 ∉ fm :: v0.ownBlock.toList by
            intro hin
            rcases List.mem_cons.1 hin with h9 | h9
            · exact x8 (h9 ▸ hTf1)
            · exact hno14 q8 (.inr (.inr (.inr rfl))) h9) HG12.out)
          have hN15 := N12.out.flt (g := o.fli) (v' := .slice (some ⟨g14, 0, none⟩) ((fl1 o.fli).length + 1) cap14) (l' := fl1 o.fli ++ [o.id]) hUall (fun k hk => by
              rcases List.mem_cons.1 hk with h9 | h9
              · exact .inl h9
              · exact .inr (.inl (hown0 k (hF14 k h9)))) ⟨_, hm15.congr (fun x => by
                by_cases hx : x = o.fli
                · rw [if_pos hx, if_pos hx, if_pos hx, if_neg (by simp)]
                  rfl
                · rw [if_neg hx, if_neg hx, if_neg hx, if_neg hx])⟩ (fun _ => hO14.upd hu15 (fun k hk => by
              simp [Value.ownBlock] at hk
              subst hk
              rcases hat14 with h9 | h9
              · simpa using hv0m _ h9
              · simp; omega)) (fun _ k hk => by
              simp [Value.ownBlock] at hk
              subst hk
              rcases hat14 with h9 | h9
              · exact .inl (hown0 _ h9)
              · exact .inr (by omega))
          obtain ⟨sl2, fl2, v2, hfl2e, hsl2, NB⟩ : ∃ (sl2 : Fli → Value) (fl2 : Fli → List Int) (v2 : Value), fl2 = updF fl1 o.fli (fl1 o.fli ++ [o.id]) ∧ sl2 o.fli = v2 ∧ Hid (Now T w W15 (Gr (Gr T W4 W8) W12 W15) t keep next lv ev m fm sl2 A D (oneM M o) fl2) := ⟨_, _, .slice (some ⟨g14, 0, none⟩) ((fl1 o.fli).length + 1) cap14, rfl, if_pos rfl, Lib.hid hN15⟩
          have hfl2o : fl2 o.fli = fl1 o.fli ++ [o.id] := by rw [hfl2e]; exact if_pos rfl
          have hx15 : q8 < W12.heap.size := lt_of_block HG12.out
          have y8 : ¬ (Gr (Gr T W4 W8) W12 W15) q8 := notGr x8 hx15
          have c15 := hk15.1
          have HFL2 := Lib.hid hfl2e
          have HFL2O := Lib.hid hfl2o
          have HSL2 := Lib.hid hsl2
          clear hN15 hUall hk12 hk13 hk14 hk15 hu15 hm15 hO14 hg14 hat14 hU14 hF14 hno14 HE14 hu13 hfl2e hfl2o hsl2 hown0 hv0m HO13 HX13 HX12 HO0' HV0' HFLm c5 k0 rf NA N12 HG12 HB12 HB11
          obtain ⟨n15, hfl15⟩ := NB.out.m.fls
          obtain ⟨f5, hf5⟩ : ∃ f5 : Fli → Option Value, f5 = fun f => if fl2 f = [] then none else some (sl2 f) := ⟨_, rfl⟩
          have hne2 : fl2 o.fli ≠ [] := by rw [HFL2O.out]; simp
          have hf5o : (f5 o.fli).getD (.slice none 0 0) = v2 := by rw [hf5]; simp only [if_neg hne2, HSL2.out]; rfl
          rw [← hf5] at hfl15
          have HF5 := Lib.hid hf5
          have HF5O := Lib.hid hf5o
          have HFS2 := Lib.hid hfl15
          clear hf5 hf5o hfl15
          go_upto_region 14 with fail
          have d0 := fun (z : Later W15) => z.cell c15
          have RF := Lib.hid (fun w' hx => later_range (fli_range HG15.out) w' hx)
          have HFL := Lib.hid (fun (w' : World) (hx : ∃ x : Later W15, w' = x.w) => (show MapF fliK w' fm f5 n15 from by obtain ⟨z, rfl⟩ := hx; exact (HFS2.out.below z.h).toF))
          refine Mix.wp_region_mix_tail 6 [] [0, 1, 2, 3, 4, 5] (fun w' => ∃ x : Later W15, w' = x.w) (by kernel_rfl) (by kernel_rfl) (Mix.later_drew W15) ?_
          simp only [List.take_succ_cons, List.take_zero, List.drop_succ_cons, List.drop_zero]
          refine Mix.stages_nil ?_
          simp only [Mix.pickL, List.getElem?_cons_zero, List.getElem?_cons_succ]
          repeat (first
            | go_big_quiet_skip
            | (go_big_quiet_want; first
              | (refine quiet_load_mid 65 _ rfl q8 0 rfl o.fli.cells _ RF.out Try.underlying65 rfl (fliRow o.fli) ?_; simp only [Act.put, List.setIfInBounds_toArray, List.set_cons_succ, List.set_cons_zero]; go_big_quiet_on)
              | (refine quiet_lookup fliOk _ _ 58 59 rfl Try.underlying58 (z := .slice none 0 0) (fun w => Try.zeroValue59 w) rfl HFL.out o.fli rfl ?_; rw [HF5O.out]; simp only [Act.put, List.setIfInBounds_toArray, List.set_cons_succ, List.set_cons_zero]; go_big_quiet_on)
              | (go_big_quiet_op; go_big_quiet_on)))
          refine wpQuiet_nil ?_
          clear d0 RF HFL c15
          have hbs : Below W15.heap.size W15 W15.drew := (Below.refl _ _).drew
          have N16 := Lib.hid (NB.out.below hbs)
          have HF16 := Lib.hid (HFS2.out.below hbs)
          have hss := hbs.size
          generalize W15.drew = W16 at hbs N16 HF16 hss ⊢
          clear hbs
          have hO16 : Owns intR 0 W16 v2 (fl2 o.fli) := by rw [← HSL2.out]; exact N16.out.m.each o.fli hne2
          have hl2 : (fl2 o.fli).length ≤ 100000 := by rw [HFL2O.out]; simp; omega
          have KS := Lib.hid (sort_any W16 v2 (fl2 o.fli) 0 hO16 hl2)
          clear hO16
          go_wp2_with (go_at_call 30; refine KS.out.mono ?_; rintro e W17 ⟨rfl, hO17, F17, hF17, hU17⟩)
          simp only [Mix.OnlyN]
          have hml : (fl2 o.fli).mergeSort (fun x y => decide (x ≤ y)) ≠ [] := fun e => by
            have := congrArg List.length e
            rw [List.length_mergeSort, HFL2O.out] at this
            simp at this
          have hv2 : ∀ k, v2.ownBlock = some k → fl2 o.fli ≠ [] ∧ (sl2 o.fli).ownBlock = some k := fun k hk => ⟨hne2, by rw [HSL2.out]; exact hk⟩
          have hfm17 : fm ∉ F17 := fun hin => by
            obtain ⟨hg, ho⟩ := hv2 fm (hF17 fm hin)
            exact (N16.out.m.ds o.fli hg fm ho).2.2.2.1 rfl
          have N17 := Lib.hid (N16.out.flt (g := o.fli) (v' := v2) (l' := (fl2 o.fli).mergeSort fun x y => decide (x ≤ y)) hU17 (fun k hk => .inr (.inl (hv2 k (hF17 k hk)))) ⟨_, (HF16.out.upd hU17 hfm17).congr (fun x => by
            rw [HF5.out]
            dsimp only
            by_cases hx : x = o.fli
            · rw [if_pos hx, if_pos hx, if_neg hml, hx, if_neg hne2, HSL2.out]
            · rw [if_neg hx, if_neg hx])⟩ (fun _ => hO17) (fun _ k hk => .inl (hv2 k hk)))
          clear hU17 hF17 hO17 KS hfm17
          go_wp2_with fail
          go_ret
          refine FIN.out _ _ _ _ _ _ N17.out (funext fun f => ?_)
          unfold updF
          by_cases hx : f = o.fli
          · rw [if_pos hx, if_pos hx, HFL2O.out, HF1O.out]
          · rw [if_neg hx, if_neg hx, HFL2.out]
            unfold updF
            rw [if_neg hx, HFL1.out]
            rfl
        | cons y ys =>
          have hlen0 : (((but o.id (fl was.fli)).length : Int) == 0) = false := by rw [hbe]; simp; omega
          have HBE := Lib.hid (show but o.id (fl was.fli) ≠ [] from by rw [hbe]; simp)
          clear hbe
          have HU8 := HU7
          have HN8 := HN7
          have HF8 := HF7
          have HG8 := HG7
          have HO8 := HO7
          have HM8 : Hid (∃ n, MapS fliK W7 fm (fun f => if (if f = was.fli then but o.id (fl was.fli) else fl f) = [] then none else some (if f = was.fli then .slice a3 (but o.id (fl was.fli)).length c3 else sl f)) n) := Lib.hid ⟨_, HM7.out.congr (fun x => by
            rw [HF6'.out]
            by_cases hx : x = was.fli
            · simp only [if_pos hx]
              rw [if_neg HBE.out]
            · simp only [if_neg hx]
              rw [HF0.out])⟩
          obtain ⟨W8, hW8⟩ : ∃ W8, W8 = W7 := ⟨_, rfl⟩
          subst hW8
          clear HU7 HN7 HF7 HG7 HO7 HM7 c57
          have N8 := Lib.hid (N4d.out.flt (g := was.fli) (v' := .slice a3 (but o.id (fl was.fli)).length c3) (l' := but o.id (fl was.fli)) HU8.out (fun k hk => .inl (by simpa using hk)) HM8.out (fun _ => HO8.out) (fun _ k hk => .inr (HL3.out k hk)))
          have hW4 : w.heap.size < W4.heap.size ∧ q7 < W4.heap.size ∧ q8 < W4.heap.size := by omega
          replace x0 := notGr (W' := W8) x0 hW4.1
          replace x7 := notGr (W' := W8) x7 hW4.2.1
          replace x8 := notGr (W' := W8) x8 hW4.2.2
          have HNx := HN8
          have HFx := HF8
          have HGx := HG8
          clear HN8 HF8 HG8 HU8 HM8 HO8 N4d N4 HN4 HF4 HG4 r7 r8 kst
          go_upto_region 9 with fail
          have c4 := N8.out.m.box.get (i := 4) rfl
          have k0 : W8.cell? ⟨w.heap.size, 0, none⟩ = some (.int .i64 o.id) := by simpa using (op_range HNx.out) 0 _ rfl
          have d0 := fun (z : Later W8) => z.cell c4
          have d1 := fun (z : Later W8) => z.cell k0
          have RT := Lib.hid (fun w' hx => later_range (op_range HNx.out) w' hx)
          clear c4 k0
          refine Mix.wp_region_mix_tail 7 [] [0, 1, 2, 3, 4, 5, 6] (fun w' => ∃ x : Later W8, w' = x.w) (by kernel_rfl) (by kernel_rfl) (Mix.later_drew W8) ?_
          simp only [List.take_succ_cons, List.take_zero, List.drop_succ_cons, List.drop_zero]
          refine Mix.stages_nil ?_
          simp only [Mix.pickL, List.getElem?_cons_zero, List.getElem?_cons_succ]
          repeat (first
            | go_big_quiet_skip
            | (go_big_quiet_want; first
              | (refine quiet_load_mid 30 _ rfl w.heap.size 0 rfl o.cells _ RT.out Try.underlying30 rfl (opRow o) ?_; simp only [Act.put, List.setIfInBounds_toArray, List.set_cons_succ, List.set_cons_zero]; go_big_quiet_on)
              | (go_big_quiet_op; go_big_quiet_on)))
          refine wpQuiet_nil ?_
          clear d0 d1 RT
          have hbo : Below W8.heap.size W8 W8.drew := (Below.refl _ _).drew
          have N8b := Lib.hid (N8.out.below hbo)
          have HNy := Lib.hid (kept hbo HNx.out)
          have HFy := Lib.hid (kept hbo HFx.out)
          have HGy := Lib.hid (kept hbo HGx.out)
          have hszo := hbo.size
          generalize W8.drew = W9 at hbo N8b HNy HFy HGy hszo ⊢
          obtain ⟨nop, hop⟩ := N8b.out.m.ops
          have HOP := Lib.hid hop
          clear hop hbo
          go_wp2_with (refine wl_update (intK_ok Try.underlying3) rfl _ _ _ 57 30 rfl Try.underlying57 rfl HOP.out o.id rfl (opR.val o) rfl ?_; intro W10 huo hmo)
          simp only [Mix.OnlyN]
          have N10 := Lib.hid (N8b.out.ops huo hmo)
          have nin : ∀ k, ¬ (Gr T W4 W8) k → k ∉ [m] := fun k hk hin => by simp at hin; subst hin; exact hk N8b.out.m.tT.2.1
          have HNz := Lib.hid (huo.heap (nin _ x0) HNy.out)
          have HFz := Lib.hid (huo.heap (nin _ x7) HFy.out)
          have HGz := Lib.hid (huo.heap (nin _ x8) HGy.out)
          have hszm := huo.size
          clear huo hmo HOP nin HNy HFy HGy
          have kst2 : W10.cell? ⟨w.heap.size, 8, none⟩ = some (.int .i64 o.st) := by simpa using (op_range HNz.out) 8 _ rfl
          obtain ⟨sl1, fl1, hfl1, NA⟩ : ∃ (sl1 : Fli → Value) (fl1 : Fli → List Int), fl1 = updF fl was.fli (but o.id (fl was.fli)) ∧ Hid (Now T w W10 (Gr T W4 W8) t keep next lv ev m fm sl1 A D (oneM M o) fl1) := ⟨_, _, rfl, N10⟩
          clear N10
          have hf1o : fl1 o.fli = fl o.fli := by rw [hfl1]; unfold updF; rw [if_neg (fun e => HFG.out e.symm)]
          have hlen1 : (fl1 o.fli).length ≤ 900 := by rw [hf1o]; exact hfl2
          have HFL1 := Lib.hid hfl1
          have HF1O := Lib.hid hf1o
          clear hfl1 hf1o
          go_upto_region 13 with (first
            | (go_at_call 26; refine (KO.out _).mono ?_; rintro e w' ⟨rfl, rfl⟩)
            | (refine wpList_load_mid rfl 65 _ rfl q7 0 rfl was.fli.cells _ (fli_range HFz.out) Try.underlying65 rfl (fliRow was.fli) ?_)
            | (refine wpList_load_mid rfl 65 _ rfl q8 0 rfl o.fli.cells _ (fli_range HGz.out) Try.underlying65 rfl (fliRow o.fli) ?_)
            | (refine wl_neqF rfl _ _ _ rfl was.fli o.fli rfl rfl ?_; rw [decide_eq_false HFG.out]))
          have hT10 : ∀ k, (Gr T W4 W8) k → k < W10.heap.size := NA.out.m.lt
          have hTf1 : (Gr T W4 W8) fm := NA.out.m.tT.2.2
          have htf : t ≠ fm := NA.out.m.tm.2
          have c5 := NA.out.m.box.get (i := 5) rfl
          have k0 : W10.cell? ⟨w.heap.size, 0, none⟩ = some (.int .i64 o.id) := by simpa using (op_range HNz.out) 0 _ rfl
          have rf := fli_range HGz.out
          have d0 := fun (z : Mix.InS (fun z => z.cell? ⟨t, 5, none⟩ = some (.map (some fm)) ∧ z.cell? ⟨w.heap.size, 0, none⟩ = some (.int .i64 o.id) ∧ z.rangeAt q8 0 o.fli.cells)) => z.h.1
          have d1 := fun (z : Mix.InS (fun z => z.cell? ⟨t, 5, none⟩ = some (.map (some fm)) ∧ z.cell? ⟨w.heap.size, 0, none⟩ = some (.int .i64 o.id) ∧ z.rangeAt q8 0 o.fli.cells)) => z.h.2.1
          have RT := Lib.hid (fun (w' : World) (hx : ∃ x : Mix.InS (fun z => z.cell? ⟨t, 5, none⟩ = some (.map (some fm)) ∧ z.cell? ⟨w.heap.size, 0, none⟩ = some (.int .i64 o.id) ∧ z.rangeAt q8 0 o.fli.cells), w' = x.w) => (show w'.rangeAt q8 0 o.fli.cells from by obtain ⟨z, rfl⟩ := hx; exact z.h.2.2))
          have hne : Nonempty (Mix.InS (fun z => z.cell? ⟨t, 5, none⟩ = some (.map (some fm)) ∧ z.cell? ⟨w.heap.size, 0, none⟩ = some (.int .i64 o.id) ∧ z.rangeAt q8 0 o.fli.cells)) := ⟨⟨W10, c5, k0, rf⟩⟩
          refine Mix.wp_region_mix [([0, 1, 2, 3, 4, 5, 6], 7), ([], 8), ([9, 11], 10), ([], 12)] [] (fun w' => ∃ x : Mix.InS (fun z => z.cell? ⟨t, 5, none⟩ = some (.map (some fm)) ∧ z.cell? ⟨w.heap.size, 0, none⟩ = some (.int .i64 o.id) ∧ z.rangeAt q8 0 o.fli.cells), w' = x.w) (by kernel_rfl) (by kernel_rfl) (Mix.inS_mk ⟨c5, k0, rf⟩) ?_
          have HB11 := Lib.hid (show Below W10.heap.size W10 W10.drew from (Below.refl _ _).drew)
          generalize W10.drew = W11 at HB11 ⊢
          refine Mix.stages_cons ?_
          simp only [Mix.pickL, List.getElem?_cons_zero, List.getElem?_cons_succ]
          repeat (first
            | go_big_quiet_skip
            | (go_big_quiet_want; first
              | (refine quiet_load_mid 65 _ rfl q8 0 rfl o.fli.cells _ RT.out Try.underlying65 rfl (fliRow o.fli) ?_; simp only [Act.put, List.setIfInBounds_toArray, List.set_cons_succ, List.set_cons_zero]; go_big_quiet_on)
              | (go_big_quiet_op; go_big_quiet_on)))
          refine wpQuiet_nil ?_
          go_wp2_with (refine wl_build_rec intOk rfl _ rfl o.id rfl ?_; have hx12 := built_range (R := intR) (w := W11) o.id; have hb12 : Below W11.heap.size W11 (W11.alloc (.cells (intR.val o.id).cells intR.ty)) := (Below.refl _ _).alloc (Nat.le_refl _) _; generalize W11.alloc (.cells (intR.val o.id).cells intR.ty) = W12 at hx12 hb12 ⊢)
          have HB12 := Lib.hid (bthen' HB11.out hb12)
          have N12 := Lib.hid (NA.out.below HB12.out)
          have HG12 := Lib.hid (kept HB12.out HGz.out)
          have HX12 := Lib.hid hx12
          have hk12 : W12.cell? ⟨t, 5, none⟩ = some (.map (some fm)) ∧ W12.cell? ⟨w.heap.size, 0, none⟩ = some (.int .i64 o.id) ∧ W12.rangeAt q8 0 o.fli.cells := ⟨below_cell HB12.out c5, below_cell HB12.out k0, below_range HB12.out rf⟩
          have hs11 := HB11.out.size
          have hs12 := HB12.out.size
          clear hx12 hb12
          refine Mix.onward_in hk12 ?_
          refine Mix.stages_cons ?_
          simp only [Mix.pickL, List.getElem?_cons_zero, List.getElem?_cons_succ]
          refine wpQuiet_nil ?_
          obtain ⟨n12, hfl12⟩ := N12.out.m.fls
          have HFLm := Lib.hid hfl12
          clear hfl12
          obtain ⟨v0, hv0, hO0, hown0⟩ := own0 N12.out.m o.fli
          have HV0' := Lib.hid hv0
          have HO0' := Lib.hid hO0
          clear hO0 hv0
          go_wp2_with (refine wl_entryS fliOk rfl _ _ 58 59 rfl Try.underlying58 (z := .slice none 0 0) (fun w => Try.zeroValue59 w) rfl HFLm.out o.fli rfl ?_; rw [← HV0'.out]; intro W13 st hu13 hE13)
          have hs13 := hu13.size
          have hk13 : W13.cell? ⟨t, 5, none⟩ = some (.map (some fm)) ∧ W13.cell? ⟨w.heap.size, 0, none⟩ = some (.int .i64 o.id) ∧ W13.rangeAt q8 0 o.fli.cells :=
            ⟨hu13.cell (by simpa using htf) hk12.1, hu13.cell (by simp; intro e; exact x0 (e ▸ hTf1)) hk12.2.1, hu13.range (by simp; intro e; exact x8 (e ▸ hTf1)) hk12.2.2⟩
          refine Mix.onward_in hk13 ?_
          refine Mix.stages_cons ?_
          simp only [Mix.pickL, List.getElem?_cons_zero, List.getElem?_cons_succ]
          repeat (first
            | go_big_quiet_skip
            | (go_big_quiet_want; (go_big_quiet_op; go_big_quiet_on)))
          refine wpQuiet_nil ?_
          have hv0m : ∀ k, v0.ownBlock = some k → k ≠ fm := fun k hk => (N12.out.m.ds o.fli (hown0 k hk).1 k (hown0 k hk).2).2.2.2.1
          have HO13 := Lib.hid (HO0'.out.upd hu13 (fun k hk => by simpa using hv0m k hk))
          have HX13 := Lib.hid (hu13.range (show W11.heap.size ∉ [fm] by simp; intro e; have := hT10 fm hTf1; omega) HX12.out)
          go_wp2_with (refine wl_append_rec intOk rfl _ _ rfl 0 _ (fl1 o.fli) rfl HO13.out W11.heap.size 0 1 o.id rfl HX13.out (by omega) (by omega) ?_; intro g14 cap14 W14 hO14 hg14 hat14)
          have hU14 : Upd v0.ownBlock.toList W13 W14 := upd_grown hg14
          have hF14 : ∀ k ∈ v0.ownBlock.toList, v0.ownBlock = some k := fun k hk => by simpa using hk
          have hno14 : ∀ k, (k = t ∨ k = fm ∨ k = w.heap.size ∨ k = q8) → k ∉ v0.ownBlock.toList := fun k hk hin => by
            obtain ⟨hg, ho⟩ := hown0 k (hF14 k hin)
            obtain ⟨a, b, c, d, -⟩ := N12.out.m.ds o.fli hg k ho
            rcases hk with rfl | rfl | rfl | rfl
            · exact b rfl
            · exact d rfl
            · exact x0 a
            · exact x8 a
          have hk14 : W14.cell? ⟨t, 5, none⟩ = some (.map (some fm)) ∧ W14.cell? ⟨w.heap.size, 0, none⟩ = some (.int .i64 o.id) ∧ W14.rangeAt q8 0 o.fli.cells :=
            ⟨hU14.cell (hno14 t (.inl rfl)) hk13.1, hU14.cell (hno14 _ (.inr (.inr (.inl rfl)))) hk13.2.1, hU14.range (hno14 _ (.inr (.inr (.inr rfl)))) hk13.2.2⟩
          refine Mix.onward_in hk14 ?_
          refine Mix.stages_cons ?_
          simp only [Mix.pickL, List.getElem?_cons_zero, List.getElem?_cons_succ]
          refine wpQuiet_nil ?_
          have HE14 := Lib.hid (hE13.upd hU14 (hno14 fm (.inr (.inl rfl))))
          clear hE13
          go_wp2_with (refine wl_entryStoreS rfl _ _ _ 58 rfl rfl o.fli st HE14.out rfl _ rfl ?_; intro W15 hu15 hm15)
          have hk15 : W15.cell? ⟨t, 5, none⟩ = some (.map (some fm)) ∧ W15.cell? ⟨w.heap.size, 0, none⟩ = some (.int .i64 o.id) ∧ W15.rangeAt q8 0 o.fli.cells :=
            ⟨hu15.cell (by simpa using htf) hk14.1, hu15.cell (by simp; intro e; exact x0 (e ▸ hTf1)) hk14.2.1, hu15.range (by simp; intro e; exact x8 (e ▸ hTf1)) hk14.2.2⟩
          refine Mix.onward_in hk15 ?_
          refine Mix.stages_nil ?_
          simp only [Mix.pickL]
          refine wpQuiet_nil ?_
          clear d0 d1 hne RT
          have hs14 := hU14.size
          have hs15 := hu15.size
          have hUall : Upd (fm :: v0.ownBlock.toList) W12 W15 := ((hu13.mono (by simp)).trans (hU14.mono (fun i hi => List.mem_cons_of_mem _ hi))).trans (hu15.mono (by simp))
          have hfm12 : fm < W12.heap.size := N12.out.m.lt fm hTf1
          have HG15 := Lib.hid (hUall.heap (show q8 ∉ fm :: v0.ownBlock.toList by
            intro hin
            rcases List.mem_cons.1 hin with h9 | h9
            · exact x8 (h9 ▸ hTf1)
            · exact hno14 q8 (.inr (.inr (.inr rfl))) h9) HG12.out)
          have hN15 := N12.out.flt (g := o.fli) (v' := .slice (some ⟨g14, 0, none⟩) ((fl1 o.fli).length + 1) cap14) (l' := fl1 o.fli ++ [o.id]) hUall (fun k hk => by
              rcases List.mem_cons.1 hk with h9 | h9
              · exact .inl h9
              · exact .inr (.inl (hown0 k (hF14 k h9)))) ⟨_, hm15.congr (fun x => by
                by_cases hx : x = o.fli
                · rw [if_pos hx, if_pos hx, if_pos hx, if_neg (by simp)]
                  rfl
                · rw [if_neg hx, if_neg hx, if_neg hx, if_neg hx])⟩ (fun _ => hO14.upd hu15 (fun k hk => by
              simp [Value.ownBlock] at hk
              subst hk
              rcases hat14 with h9 | h9
              · simpa using hv0m _ h9
              · simp; omega)) (fun _ k hk => by
              simp [Value.ownBlock] at hk
              subst hk
              rcases hat14 with h9 | h9
              · exact .inl (hown0 _ h9)
              · exact .inr (by omega))
          obtain ⟨sl2, fl2, v2, hfl2e, hsl2, NB⟩ : ∃ (sl2 : Fli → Value) (fl2 : Fli → List Int) (v2 : Value), fl2 = updF fl1 o.fli (fl1 o.fli ++ [o.id]) ∧ sl2 o.fli = v2 ∧ Hid (Now T w W15 (Gr (Gr T W4 W8) W12 W15) t keep next lv ev m fm sl2 A D (oneM M o) fl2) := ⟨_, _, .slice (some ⟨g14, 0, none⟩) ((fl1 o.fli).length + 1) cap14, rfl, if_pos rfl, Lib.hid hN15⟩
          have hfl2o : fl2 o.fli = fl1 o.fli ++ [o.id] := by rw [hfl2e]; exact if_pos rfl
          have hx15 : q8 < W12.heap.size := lt_of_block HG12.out
          have y8 : ¬ (Gr (Gr T W4 W8) W12 W15) q8 := notGr x8 hx15
          have c15 := hk15.1
          have HFL2 := Lib.hid hfl2e
          have HFL2O := Lib.hid hfl2o
          have HSL2 := Lib.hid hsl2
          clear hN15 hUall hk12 hk13 hk14 hk15 hu15 hm15 hO14 hg14 hat14 hU14 hF14 hno14 HE14 hu13 hfl2e hfl2o hsl2 hown0 hv0m HO13 HX13 HX12 HO0' HV0' HFLm c5 k0 rf NA N12 HG12 HB12 HB11
          obtain ⟨n15, hfl15⟩ := NB.out.m.fls
          obtain ⟨f5, hf5⟩ : ∃ f5 : Fli → Option Value, f5 = fun f => if fl2 f = [] then none else some (sl2 f) := ⟨_, rfl⟩
          have hne2 : fl2 o.fli ≠ [] := by rw [HFL2O.out]; simp
          have hf5o : (f5 o.fli).getD (.slice none 0 0) = v2 := by rw [hf5]; simp only [if_neg hne2, HSL2.out]; rfl
          rw [← hf5] at hfl15
          have HF5 := Lib.hid hf5
          have HF5O := Lib.hid hf5o
          have HFS2 := Lib.hid hfl15
          clear hf5 hf5o hfl15
          go_upto_region 14 with fail
          have d0 := fun (z : Later W15) => z.cell c15
          have RF := Lib.hid (fun w' hx => later_range (fli_range HG15.out) w' hx)
          have HFL := Lib.hid (fun (w' : World) (hx : ∃ x : Later W15, w' = x.w) => (show MapF fliK w' fm f5 n15 from by obtain ⟨z, rfl⟩ := hx; exact (HFS2.out.below z.h).toF))
          refine Mix.wp_region_mix_tail 6 [] [0, 1, 2, 3, 4, 5] (fun w' => ∃ x : Later W15, w' = x.w) (by kernel_rfl) (by kernel_rfl) (Mix.later_drew W15) ?_
          simp only [List.take_succ_cons, List.take_zero, List.drop_succ_cons, List.drop_zero]
          refine Mix.stages_nil ?_
          simp only [Mix.pickL, List.getElem?_cons_zero, List.getElem?_cons_succ]
          repeat (first
            | go_big_quiet_skip
            | (go_big_quiet_want; first
              | (refine quiet_load_mid 65 _ rfl q8 0 rfl o.fli.cells _ RF.out Try.underlying65 rfl (fliRow o.fli) ?_; simp only [Act.put, List.setIfInBounds_toArray, List.set_cons_succ, List.set_cons_zero]; go_big_quiet_on)
              | (refine quiet_lookup fliOk _ _ 58 59 rfl Try.underlying58 (z := .slice none 0 0) (fun w => Try.zeroValue59 w) rfl HFL.out o.fli rfl ?_; rw [HF5O.out]; simp only [Act.put, List.setIfInBounds_toArray, List.set_cons_succ, List.set_cons_zero]; go_big_quiet_on)
              | (go_big_quiet_op; go_big_quiet_on)))
          refine wpQuiet_nil ?_
          clear d0 RF HFL c15
          have hbs : Below W15.heap.size W15 W15.drew := (Below.refl _ _).drew
          have N16 := Lib.hid (NB.out.below hbs)
          have HF16 := Lib.hid (HFS2.out.below hbs)
          have hss := hbs.size
          generalize W15.drew = W16 at hbs N16 HF16 hss ⊢
          clear hbs
          have hO16 : Owns intR 0 W16 v2 (fl2 o.fli) := by rw [← HSL2.out]; exact N16.out.m.each o.fli hne2
          have hl2 : (fl2 o.fli).length ≤ 100000 := by rw [HFL2O.out]; simp; omega
          have KS := Lib.hid (sort_any W16 v2 (fl2 o.fli) 0 hO16 hl2)
          clear hO16
          go_wp2_with (go_at_call 30; refine KS.out.mono ?_; rintro e W17 ⟨rfl, hO17, F17, hF17, hU17⟩)
          simp only [Mix.OnlyN]
          have hml : (fl2 o.fli).mergeSort (fun x y => decide (x ≤ y)) ≠ [] := fun e => by
            have := congrArg List.length e
            rw [List.length_mergeSort, HFL2O.out] at this
            simp at this
          have hv2 : ∀ k, v2.ownBlock = some k → fl2 o.fli ≠ [] ∧ (sl2 o.fli).ownBlock = some k := fun k hk => ⟨hne2, by rw [HSL2.out]; exact hk⟩
          have hfm17 : fm ∉ F17 := fun hin => by
            obtain ⟨hg, ho⟩ := hv2 fm (hF17 fm hin)
            exact (N16.out.m.ds o.fli hg fm ho).2.2.2.1 rfl
          have N17 := Lib.hid (N16.out.flt (g := o.fli) (v' := v2) (l' := (fl2 o.fli).mergeSort fun x y => decide (x ≤ y)) hU17 (fun k hk => .inr (.inl (hv2 k (hF17 k hk)))) ⟨_, (HF16.out.upd hU17 hfm17).congr (fun x => by
            rw [HF5.out]
            dsimp only
            by_cases hx : x = o.fli
            · rw [if_pos hx, if_pos hx, if_neg hml, hx, if_neg hne2, HSL2.out]
            · rw [if_neg hx, if_neg hx])⟩ (fun _ => hO17) (fun _ k hk => .inl (hv2 k hk)))
          clear hU17 hF17 hO17 KS hfm17
          go_wp2_with fail
          go_ret
          refine FIN.out _ _ _ _ _ _ N17.out (funext fun f => ?_)
          unfold updF
          by_cases hx : f = o.fli
          · rw [if_pos hx, if_pos hx, HFL2O.out, HF1O.out]
          · rw [if_neg hx, if_neg hx, HFL2.out]
            unfold updF
            rw [if_neg hx, HFL1.out]
            rfl
end Go.Proofs.Ytddmajgadaooaaa
