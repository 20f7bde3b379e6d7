/- Load of a table of operations (printed by genopload2.py). -/
import Derived.Test.YtddmajgadaooaaaOpFresh
import Derived.Test.YtddmajgadaooaaaOpActs
set_option linter.unusedVariables false
set_option linter.unusedSimpArgs false
namespace Go.Proofs.Ytddmajgadaooaaa
open Go.RowKit

/-- Ahead of the loading's end: the two variables, apart from the table. -/
structure LdB (w wr : World) (t q qn : Nat) (next : Int) (T : Nat → Prop) : Prop where
  below : Below w.heap.size w wr
  lo : ∀ k, T k → w.heap.size ≤ k
  nq : ¬ T q
  nn : ¬ T qn
  cq : wr.cell? ⟨q, 0, none⟩ = some (.pointer (some ⟨t, 0, none⟩))
  cn : wr.cell? ⟨qn, 0, none⟩ = some (.int .i64 next)
theorem cell_updP {P : Nat → Prop} {w w' : World} {a : Addr} {v : Value} (hu : UpdP P w w') (h : w.cell? a = some v) (hP : ¬ P a.block) : w'.cell? a = some v := by
  have hl := World.block_lt_of_cell? w _ h
  have := hu.block a.block hl hP
  unfold World.cell? at h ⊢
  rw [this]
  exact h
theorem LdB.step {w W W' : World} {t q qn : Nat} {next : Int} {T T' : Nat → Prop} (h : LdB w W t q qn next T) (hu : UpdP T W W') (hT : ∀ k, T' k → Gr T W W' k) : LdB w W' t q qn next T' := by
  have h1 := h.below.size
  have hq := World.block_lt_of_cell? W _ h.cq
  have hn := World.block_lt_of_cell? W _ h.cn
  refine ⟨hu.toB h.below h1 h.lo, fun k hk => ?_, fun hk => ?_, fun hk => ?_, cell_updP hu h.cq h.nq, cell_updP hu h.cn h.nn⟩
  · rcases hT k hk with h9 | h9
    · exact h.lo k h9
    · omega
  · rcases hT _ hk with h9 | h9
    · exact h.nq h9
    · simp at hq; omega
  · rcases hT _ hk with h9 | h9
    · exact h.nn h9
    · simp at hn; omega
theorem LdB.later {w W W' : World} {t q qn : Nat} {next : Int} {T : Nat → Prop} (h : LdB w W t q qn next T) (hb : Below W.heap.size W W') : LdB w W' t q qn next T := h.step (UpdP.ofB hb) (fun k hk => .inl hk)
def LMem (T : Nat → Prop) (w : World) (t : Nat) (keep : Int) (L D : List OpV) : Prop := ∃ lv ev m fm sl, OMem T w t keep 1 lv ev m fm sl (ids L) (ids D) (omap L D) (flt L)
def LoadP (w : World) (keep next : Int) (L D : List OpV) (e : Ending) (w' : World) : Prop :=
  (∃ (t : Nat) (T : Nat → Prop), MayBe keep next L D ∧ e = .returned (.tuple #[.pointer (some ⟨t, 0, none⟩), .bool true]) ∧ Below w.heap.size w w' ∧ OT T w' t keep next L D ∧ ∀ k, T k → w.heap.size ≤ k) ∨
  (¬ MayBe keep next L D ∧ e = .returned (.tuple #[.pointer none, .bool false]) ∧ Below w.heap.size w w')
theorem fresh_ok {next : Int} {L X P : List OpV} {k : Nat} {x : OpV} (hP : X.take k = P) (h : StepOk next L X k x) : freshB next P x = true := by
  unfold freshB
  rw [← hP, h.new, decide_eq_true h.lo, decide_eq_true h.hi]; rfl
theorem ok_fresh {next : Int} {X P : List OpV} {k : Nat} {x : OpV} (hP : X.take k = P) (h : freshB next P x = true) : got (X.take k) x.id = none ∧ 1 ≤ x.id ∧ x.id < next := by
  unfold freshB at h
  rw [Bool.and_eq_true, Bool.and_eq_true] at h
  rw [hP]
  exact ⟨by simpa using h.1, of_decide_eq_true h.2.1, of_decide_eq_true h.2.2⟩
theorem take_left {L D : List OpV} {k : Nat} (h : k ≤ L.length) : (L ++ D).take k = L.take k ++ [] := by rw [List.take_append_of_le_length h, List.append_nil]
theorem take_right {L D : List OpV} {j : Nat} : (L ++ D).take (L.length + j) = L ++ D.take j := by rw [List.take_append, List.take_of_length_le (by omega)]; simp

set_option maxRecDepth 100000 in
set_option maxHeartbeats 4000000 in
theorem load_any (w : World) (keep next : Int) (vl ve : Value) (L D : List OpV) (hl : Reads opR w vl L) (hd : Reads opR w ve D) (hL : L.length ≤ 500) (hD : D.length ≤ 500) :
    Calls Try.prog 23 #[.int .i64 keep, .int .i64 next, vl, ve] w (LoadP w keep next L D) := by
  obtain ⟨av, cv, rfl⟩ := hl.form
  obtain ⟨ad, cd, rfl⟩ := hd.form
  have HL := Lib.hid hl
  have HD := Lib.hid hd
  have hb1 : Below w.heap.size w (w.alloc (.cells #[.int .i64 next] 3)) := (Below.refl _ _).alloc (Nat.le_refl _) _
  have hn1 : (w.alloc (.cells #[.int .i64 next] 3)).heap[w.heap.size]? = some (.cells #[.int .i64 next] 3 (0, 0)) := heap_alloc_new _ _
  obtain ⟨W1, hW1⟩ : ∃ W1, W1 = w.alloc (.cells #[.int .i64 next] 3) := ⟨_, rfl⟩
  rw [← hW1] at hb1 hn1
  have HN1 := Lib.hid (show W1.cell? ⟨w.heap.size, 0, none⟩ = some (.int .i64 next) from cell_of_row W1 _ 0 _ _ _ hn1)
  have HB1 := Lib.hid hb1
  clear hl hd hn1
  have nope : ∀ (e : Ending) (w' : World), ¬ MayBe keep next L D → e = .returned (.tuple #[.pointer none, .bool false]) → Below w.heap.size w w' → LoadP w keep next L D e w' := fun e w' h1 h2 h3 => .inr ⟨h1, h2, h3⟩
  have NO := Lib.hid nope
  clear nope
  by_cases h1 : keep < 1
  · have hn := Lib.hid (show ¬ MayBe keep next L D from fun h => by have := h.1; omega)
    have KN := Lib.hid (new_none W1 keep h1)
    go_enter Try.func23, Try.ntmps23
    go_upto_region 1 with fail
    show Code.wp _ _ _ _ (w.alloc (.cells #[.int .i64 next] 3))
    rw [← hW1]
    clear hW1 hb1
    go_wp2_with (go_at_call 7; refine KN.out.mono ?_; rintro e w' ⟨rfl, rfl⟩)
    go_ret2
    exact NO.out _ _ hn.out rfl (bthen' HB1.out ((Below.refl _ _).alloc (Nat.le_refl _) _))
  have h1' : 1 ≤ keep := by omega
  have KN := Lib.hid (new_any W1 keep h1')
  have KK := Lib.hid h1'
  go_enter Try.func23, Try.ntmps23
  go_upto_region 1 with fail
  show Code.wp _ _ _ _ (w.alloc (.cells #[.int .i64 next] 3))
  rw [← hW1]
  clear hW1 hb1 h1
  go_upto_region 2 with (go_at_call 7; refine KN.out.mono ?_; rintro e W2 ⟨t, rfl, hb2, m0, fm0, hm2⟩)
  show Code.wp _ _ _ _ (W2.alloc (.cells #[.pointer (some ⟨t, 0, none⟩)] 23))
  have hb3 : Below W2.heap.size W2 (W2.alloc (.cells #[.pointer (some ⟨t, 0, none⟩)] 23)) := (Below.refl _ _).alloc (Nat.le_refl _) _
  have hn3 : (W2.alloc (.cells #[.pointer (some ⟨t, 0, none⟩)] 23)).heap[W2.heap.size]? = some (.cells #[.pointer (some ⟨t, 0, none⟩)] 23 (0, 0)) := heap_alloc_new _ _
  obtain ⟨q, hqe⟩ : ∃ q, q = W2.heap.size := ⟨_, rfl⟩
  obtain ⟨qn, hqn⟩ : ∃ qn, qn = w.heap.size := ⟨_, rfl⟩
  have hs1 : w.heap.size < W1.heap.size := by have := World.block_lt_of_cell? W1 _ HN1.out; simpa using this
  have hs12 := hb2.size
  rw [← hqe] at hn3 ⊢
  rw [← hqn] at HN1 hs1 ⊢
  generalize W2.alloc (.cells #[.pointer (some ⟨t, 0, none⟩)] 23) = W3 at hb3 hn3 ⊢
  have hT : ∀ k, (fun k => W1.heap.size ≤ k ∧ k < W2.heap.size) k → W1.heap.size ≤ k ∧ k < W2.heap.size := fun k hk => hk
  generalize (fun k => W1.heap.size ≤ k ∧ k < W2.heap.size) = T0 at hm2 hT
  have LB := Lib.hid (show LdB w W3 t q qn next T0 from ⟨bthen' HB1.out (bthen' hb2 hb3), fun k hk => by have := (hT k hk).1; have := HB1.out.size; omega, fun h9 => by have := (hT q h9).2; omega, fun h9 => by have := (hT qn h9).1; omega, cell_of_row W3 _ 0 _ _ _ hn3, below_cell (bthen' hb2 hb3) HN1.out⟩)
  have LM := Lib.hid (show LMem T0 W3 t keep [] [] from ⟨_, _, _, _, _, hm2.below hb3⟩)
  have HWB := Lib.hid (show Below w.heap.size w W3 from LB.out.below)
  clear hb2 hb3 hn3 hm2 hT KN hs1 hs12 hqe hqn HB1 HN1
  have q3 := LB.out.cq
  have n3 := LB.out.cn
  by_cases h2 : next < 1
  · have hn := Lib.hid (show ¬ MayBe keep next L D from fun h => by have := h.2.1; omega)
    go_wp2_with fail
    go_ret2
    exact NO.out _ _ hn.out rfl HWB.out
  by_cases h3 : keep < (D.length : Int)
  · have hn := Lib.hid (show ¬ MayBe keep next L D from fun h => by have := h.2.2.1; omega)
    go_wp2_with fail
    go_ret2
    exact NO.out _ _ hn.out rfl HWB.out
  have hH := Lib.hid (show 1 ≤ keep ∧ 1 ≤ next ∧ (D.length : Int) ≤ keep from ⟨by omega, by omega, by omega⟩)
  go_upto_block 0 with fail
  clear q3 n3 h2 h3
  have hNo := Lib.hid (show ∀ k x, (L ++ D)[k]? = some x → ¬ StepOk next L (L ++ D) k x → ¬ MayBe keep next L D from fun k x hx hn h => hn (h.2.2.2 k x hx))
  have hYes := Lib.hid (show (∀ k x, k < L.length + D.length → (L ++ D)[k]? = some x → StepOk next L (L ++ D) k x) → MayBe keep next L D from fun h => ⟨hH.out.1, hH.out.2.1, hH.out.2.2, fun k x hx => h k x (by have := (List.getElem?_eq_some_iff.1 hx).1; simpa using this) hx⟩)
  have HX1 := Lib.hid (show ∀ (k : Nat) x, L[k]? = some x → (L ++ D)[k]? = some x from fun k x hx => by rw [List.getElem?_append_left (List.getElem?_eq_some_iff.1 hx).1]; exact hx)
  have HX2 := Lib.hid (show ∀ (k : Nat) x, D[k]? = some x → (L ++ D)[L.length + k]? = some x from fun k x hx => by rw [List.getElem?_append_right (by omega), show L.length + k - L.length = k from by omega]; exact hx)
  have HT1 := Lib.hid (show ∀ k, k ≤ L.length → (L ++ D).take k = L.take k ++ [] from fun k hk => take_left hk)
  have HT2 := Lib.hid (show ∀ j, (L ++ D).take (L.length + j) = L ++ D.take j from fun j => take_right)
  obtain ⟨X, hX⟩ : ∃ X, X = L ++ D := ⟨_, rfl⟩
  rw [← hX] at hNo hYes HX1 HX2 HT1 HT2
  clear hX
  go_wp2_with fail
  go_loopw [33] (fun i wr => ∃ (k : Nat) (T : Nat → Prop), k ≤ L.length ∧ i = .int .i64 k ∧ LdB w wr t q qn next T ∧ LMem T wr t keep (L.take k) [] ∧ Hid (∀ j x, j < k → X[j]? = some x → StepOk next L X j x)) (fun i _ => L.length - (intOf i).toNat)
  case atStart => exact ⟨0, T0, by omega, rfl, LB.out, by simpa using LM.out, Lib.hid (fun j x hj => by omega)⟩
  case round =>
    clear LB LM HWB T0
    obtain ⟨k, T, hk, rfl, hLB, hLM, HE⟩ := hrel
    have LB := Lib.hid hLB
    have LM := Lib.hid hLM
    clear hLM
    by_cases hlt : k < L.length
    · obtain ⟨x, hx⟩ : ∃ x, L[k]? = some x := ⟨_, List.getElem?_eq_getElem hlt⟩
      obtain ⟨b, off, rfl, hr⟩ := (HL.out.below hLB.below).at hx
      have HR := Lib.hid hr
      have HLX := Lib.hid hx
      have HXK := Lib.hid (HX1.out k x hx)
      clear hx hr hLB
      go_upto_region 8 with (first
        | (refine wpList_load_mid rfl 30 _ rfl b (off + k * 18) rfl x.cells _ HR.out Try.underlying30 rfl (opRow x) ?_)
        | (refine wpList_store_row rfl 30 _ _ rfl wr.heap.size x.cells.toArray rfl rfl 30 zeroOp.cells.toArray (heap_alloc_new _ _) (opRow' x) rfl (opOne x) ?_))
      show Code.wp _ _ _ _ ((wr.alloc (.cells zeroOp.cells.toArray 30)).setRow wr.heap.size x.cells.toArray)
      have hb3 : Below wr.heap.size wr ((wr.alloc (.cells zeroOp.cells.toArray 30)).setRow wr.heap.size x.cells.toArray) := below_row ((Below.refl _ _).alloc (Nat.le_refl _) _) (Nat.le_refl _) _
      have hx3 : Cel ((wr.alloc (.cells zeroOp.cells.toArray 30)).setRow wr.heap.size x.cells.toArray) wr.heap.size x.cells := cel_of_row (setRow_heap _ _ _ _ _ _ (heap_alloc_new _ _))
      generalize (wr.alloc (.cells zeroOp.cells.toArray 30)).setRow wr.heap.size x.cells.toArray = W4 at hb3 hx3 ⊢
      obtain ⟨b8, hb8⟩ : ∃ b8, b8 = wr.heap.size := ⟨_, rfl⟩
      rw [← hb8] at hx3 ⊢
      have hr4 := below_range hb3 HR.out
      have HRL := Lib.hid (below_range hb3 HR.out)
      have L4 := Lib.hid (LB.out.later hb3)
      obtain ⟨lv, ev, m, fm, sl, hm⟩ := LM.out
      have HM4 := Lib.hid (hm.below hb3)
      have HX4 := Lib.hid hx3
      clear hb3 hx3 LB LM hm HR hb8 hr4
      obtain ⟨n4, hop4⟩ := HM4.out.ops
      have KF := Lib.hid (fun W (hb : Below W4.heap.size W4 W) => fresh_any W q qn t m fm n4 _ _ _ _ next (L.take k ++ []) x (below_cell hb L4.out.cq) (below_cell hb L4.out.cn) (HM4.out.box.below hb) (hop4.below hb))
      have KT := Lib.hid (fun W => terminal_any x.st W)
      have hneS : Nonempty (Mix.InS (fun z => Below W4.heap.size W4 z)) := ⟨⟨W4, Below.refl _ _⟩⟩
      have c0 := HX4.out.get (i := 0) rfl
      have c8 := HX4.out.get (i := 8) rfl
      have d1 := fun (z : Mix.InS (fun z => Below W4.heap.size W4 z)) => below_cell z.h c0
      have d2 := fun (z : Mix.InS (fun z => Below W4.heap.size W4 z)) => below_cell z.h c8
      have RB := Lib.hid (fun (w' : World) (hx : ∃ x : Mix.InS (fun z => Below W4.heap.size W4 z), w' = x.w) => (show w'.rangeAt b8 0 x.cells from by obtain ⟨z, rfl⟩ := hx; exact below_range z.h HX4.out.range))
      clear c0 c8 hop4
      cases e1 : freshB next (L.take k ++ []) x with
      | false =>
        have hno := Lib.hid (hNo.out k x HXK.out (fun h => by rw [fresh_ok (HT1.out k hk) h] at e1; cases e1))
        unfold FreshP at KF
        rw [e1] at KF
        clear e1
        simp only [Act.put]
        refine Mix.wp_region_mix [([0, 1], 2), ([3, 4, 5, 6], 7)] [8, 9, 10, 11, 12, 13, 14, 15, 16, 17, 18, 19, 20, 21, 22, 23] (fun w' => ∃ x : Mix.InS (fun z => Below W4.heap.size W4 z), w' = x.w) (by kernel_rfl) (by kernel_rfl) (Mix.inS_mk (Below.refl _ _).drew) ?_
        have hbd : Below W4.heap.size W4 W4.drew := (Below.refl _ _).drew
        generalize W4.drew = W5 at hbd ⊢
        refine Mix.stages_cons ?_
        simp only [Mix.pickL, List.getElem?_cons_zero, List.getElem?_cons_succ]
        repeat (first
          | go_big_quiet_skip
          | (go_big_quiet_want; first
            | (refine quiet_load_mid 30 _ rfl b8 0 rfl x.cells _ RB.out Try.underlying30 rfl (opRow x) ?_; simp only [Act.put, List.setIfInBounds_toArray, List.set_cons_succ, List.set_cons_zero]; go_big_quiet_on)
            | (go_big_quiet_op; go_big_quiet_on)))
        refine wpQuiet_nil ?_
        go_wp2_with (go_at_call 34; refine (KF.out W5 hbd).mono ?_; rintro e W6 ⟨rfl, hb6⟩)
        have hb46 := bthen' hbd hb6
        refine Mix.onward_in hb46 ?_
        refine Mix.stages_cons ?_
        simp only [Mix.pickL, List.getElem?_cons_zero, List.getElem?_cons_succ]
        repeat (first
          | go_big_quiet_skip
          | (go_big_quiet_want; first
            | (refine quiet_load_mid 30 _ rfl b8 0 rfl x.cells _ RB.out Try.underlying30 rfl (opRow x) ?_; simp only [Act.put, List.setIfInBounds_toArray, List.set_cons_succ, List.set_cons_zero]; go_big_quiet_on)
            | (go_big_quiet_op; go_big_quiet_on)))
        refine wpQuiet_nil ?_
        go_wp2_with (fail)
        refine Mix.onward_in hb46 ?_
        refine Mix.stages_nil ?_
        simp only [Mix.pickL, List.getElem?_cons_zero, List.getElem?_cons_succ]
        repeat (first
          | go_big_quiet_skip
          | (go_big_quiet_want; first
            | (refine quiet_load_mid 30 _ rfl b8 0 rfl x.cells _ RB.out Try.underlying30 rfl (opRow x) ?_; simp only [Act.put, List.setIfInBounds_toArray, List.set_cons_succ, List.set_cons_zero]; go_big_quiet_on)
            | (go_big_quiet_op; go_big_quiet_on)))
        refine wpQuiet_nil ?_
        go_wp2_with fail
        go_ret2
        exact NO.out _ _ hno.out rfl (bthen' L4.out.below hb46)
      | true =>
        obtain ⟨f1, f2, f3⟩ := ok_fresh (HT1.out k hk) e1
        have F1 := Lib.hid f1
        unfold FreshP at KF
        rw [e1] at KF
        clear e1 f1
        cases e2 : term x.st with
        | true =>
          have hno := Lib.hid (hNo.out k x HXK.out (fun h => by have := h.st; rw [e2, decide_eq_false (by omega)] at this; cases this))
          rw [e2] at KT
          clear e2
          simp only [Act.put]
          refine Mix.wp_region_mix [([0, 1], 2), ([3, 4, 5, 6], 7)] [8, 9, 10, 11, 12, 13, 14, 15, 16, 17, 18, 19, 20, 21, 22, 23] (fun w' => ∃ x : Mix.InS (fun z => Below W4.heap.size W4 z), w' = x.w) (by kernel_rfl) (by kernel_rfl) (Mix.inS_mk (Below.refl _ _).drew) ?_
          have hbd : Below W4.heap.size W4 W4.drew := (Below.refl _ _).drew
          generalize W4.drew = W5 at hbd ⊢
          refine Mix.stages_cons ?_
          simp only [Mix.pickL, List.getElem?_cons_zero, List.getElem?_cons_succ]
          repeat (first
            | go_big_quiet_skip
            | (go_big_quiet_want; first
              | (refine quiet_load_mid 30 _ rfl b8 0 rfl x.cells _ RB.out Try.underlying30 rfl (opRow x) ?_; simp only [Act.put, List.setIfInBounds_toArray, List.set_cons_succ, List.set_cons_zero]; go_big_quiet_on)
              | (go_big_quiet_op; go_big_quiet_on)))
          refine wpQuiet_nil ?_
          go_wp2_with (go_at_call 34; refine (KF.out W5 hbd).mono ?_; rintro e W6 ⟨rfl, hb6⟩)
          have hb46 := bthen' hbd hb6
          refine Mix.onward_in hb46 ?_
          refine Mix.stages_cons ?_
          simp only [Mix.pickL, List.getElem?_cons_zero, List.getElem?_cons_succ]
          repeat (first
            | go_big_quiet_skip
            | (go_big_quiet_want; first
              | (refine quiet_load_mid 30 _ rfl b8 0 rfl x.cells _ RB.out Try.underlying30 rfl (opRow x) ?_; simp only [Act.put, List.setIfInBounds_toArray, List.set_cons_succ, List.set_cons_zero]; go_big_quiet_on)
              | (go_big_quiet_op; go_big_quiet_on)))
          refine wpQuiet_nil ?_
          go_wp2_with (go_at_call 26; refine (KT.out _).mono ?_; rintro e w' ⟨rfl, rfl⟩)
          refine Mix.onward_in hb46 ?_
          refine Mix.stages_nil ?_
          simp only [Mix.pickL, List.getElem?_cons_zero, List.getElem?_cons_succ]
          repeat (first
            | go_big_quiet_skip
            | (go_big_quiet_want; first
              | (refine quiet_load_mid 30 _ rfl b8 0 rfl x.cells _ RB.out Try.underlying30 rfl (opRow x) ?_; simp only [Act.put, List.setIfInBounds_toArray, List.set_cons_succ, List.set_cons_zero]; go_big_quiet_on)
              | (go_big_quiet_op; go_big_quiet_on)))
          refine wpQuiet_nil ?_
          go_wp2_with fail
          go_ret2
          exact NO.out _ _ hno.out rfl (bthen' L4.out.below hb46)
        | false =>
          have E2 := Lib.hid (show term x.st = decide (L.length ≤ k) from by rw [e2, decide_eq_false (by omega)])
          rw [e2] at KT
          clear e2
          by_cases hk0 : k = 0
          · have hk1 : decide (0 < k) = false := decide_eq_false (by omega)
            have HK0 := Lib.hid hk0
            clear hk0
            have HOK := Lib.hid (show StepOk next L X k x from ⟨f2, f3, F1.out, E2.out, fun y h1 h2 => by have := HK0.out; omega⟩)
            simp only [Act.put]
            refine Mix.wp_region_mix [([0, 1], 2), ([3, 4, 5, 6], 7)] [8, 9, 10, 11, 12, 13, 14, 15, 16, 17, 18, 19, 20, 21, 22, 23] (fun w' => ∃ x : Mix.InS (fun z => Below W4.heap.size W4 z), w' = x.w) (by kernel_rfl) (by kernel_rfl) (Mix.inS_mk (Below.refl _ _).drew) ?_
            have hbd : Below W4.heap.size W4 W4.drew := (Below.refl _ _).drew
            generalize W4.drew = W5 at hbd ⊢
            refine Mix.stages_cons ?_
            simp only [Mix.pickL, List.getElem?_cons_zero, List.getElem?_cons_succ]
            repeat (first
              | go_big_quiet_skip
              | (go_big_quiet_want; first
                | (refine quiet_load_mid 30 _ rfl b8 0 rfl x.cells _ RB.out Try.underlying30 rfl (opRow x) ?_; simp only [Act.put, List.setIfInBounds_toArray, List.set_cons_succ, List.set_cons_zero]; go_big_quiet_on)
                | (go_big_quiet_op; go_big_quiet_on)))
            refine wpQuiet_nil ?_
            go_wp2_with (go_at_call 34; refine (KF.out W5 hbd).mono ?_; rintro e W6 ⟨rfl, hb6⟩)
            have hb46 := bthen' hbd hb6
            refine Mix.onward_in hb46 ?_
            refine Mix.stages_cons ?_
            simp only [Mix.pickL, List.getElem?_cons_zero, List.getElem?_cons_succ]
            repeat (first
              | go_big_quiet_skip
              | (go_big_quiet_want; first
                | (refine quiet_load_mid 30 _ rfl b8 0 rfl x.cells _ RB.out Try.underlying30 rfl (opRow x) ?_; simp only [Act.put, List.setIfInBounds_toArray, List.set_cons_succ, List.set_cons_zero]; go_big_quiet_on)
                | (go_big_quiet_op; go_big_quiet_on)))
            refine wpQuiet_nil ?_
            go_wp2_with (go_at_call 26; refine (KT.out _).mono ?_; rintro e w' ⟨rfl, rfl⟩)
            refine Mix.onward_in hb46 ?_
            refine Mix.stages_nil ?_
            simp only [Mix.pickL, List.getElem?_cons_zero, List.getElem?_cons_succ]
            repeat (first
              | go_big_quiet_skip
              | (go_big_quiet_want; first
                | (refine quiet_load_mid 30 _ rfl b8 0 rfl x.cells _ RB.out Try.underlying30 rfl (opRow x) ?_; simp only [Act.put, List.setIfInBounds_toArray, List.set_cons_succ, List.set_cons_zero]; go_big_quiet_on)
                | (go_big_quiet_op; go_big_quiet_on)))
            refine wpQuiet_nil ?_
            have L6 := Lib.hid (L4.out.later hb46)
            have HM6 := Lib.hid (HM4.out.below hb46)
            have x6 := (HX4.out.below hb46).range
            have q6 := L6.out.cq
            have KE := Lib.hid (enter_any T W6 t keep 1 lv ev m fm sl _ _ _ _ HM6.out x (by rw [ids_len]; rw [List.length_take]; omega) (by have := flt_len (L.take k) x.fli; rw [List.length_take] at this; omega))
            clear d1 d2 RB hneS L4 HM4 HX4 hbd hb46
            go_wp2_with (first
              | (refine wpList_load_mid rfl 30 _ rfl b8 0 rfl x.cells _ x6 Try.underlying30 rfl (opRow x) ?_)
              | (go_at_call 27; refine KE.out.mono ?_; rintro e W7 ⟨rfl, hu7, lv7, sl7, hm7⟩))
            have L7 := Lib.hid (L6.out.step hu7 (fun k hk => hk))
            have HM7 := Lib.hid (show LMem (Gr T W6 W7) W7 t keep (L.take (k + 1)) [] from by
              have e1 : ids (L.take k) ++ [x.id] = ids (L.take (k + 1)) := by rw [← take_snoc HLX.out, ids_app]; rfl
              have e2 : (fun i => if i = x.id then some (opR.val x) else omap (L.take k) [] i) = omap (L.take (k + 1)) [] := by
                rw [← take_snoc HLX.out]
                have := om_snoc (X := L.take k ++ []) (x := x) (by rw [← HT1.out k hk]; exact F1.out)
                unfold omap
                rw [this]
                simp only [List.append_nil]
              have e3 : (fun f => if f = x.fli then flt (L.take k) x.fli ++ [x.id] else flt (L.take k) f) = flt (L.take (k + 1)) := by
                rw [← take_snoc HLX.out]
                exact flt_add (L.take k) x
              rw [e1, e2, e3] at hm7
              exact ⟨_, _, _, _, _, hm7⟩)
            go_roundw
            case rel => exact ⟨k + 1, _, by omega, by go_num, L7.out, HM7.out, Lib.hid (fun j y hj hy => by
              by_cases hjk : j = k
              · subst hjk
                rw [HXK.out] at hy
                cases hy
                exact HOK.out
              · exact HE.out j y (by omega) hy)⟩
            case measure => simp [intOf]; omega
          · have hk1 : decide (0 < k) = true := decide_eq_true (by omega)
            have hkp : 0 < k := by omega
            obtain ⟨y, hy⟩ : ∃ y, L[k - 1]? = some y := ⟨_, List.getElem?_eq_getElem (by omega)⟩
            obtain ⟨b2, o2, e22, hr2⟩ := (HL.out.below L4.out.below).at hy
            obtain ⟨rfl, rfl⟩ : b = b2 ∧ off = o2 := by simpa using e22
            have l2 := op_id_at hr2
            have d3 := fun (z : Mix.InS (fun z => Below W4.heap.size W4 z)) => below_cell z.h l2
            have HY := Lib.hid hy
            clear hy hr2 e22 l2
            by_cases e5 : x.id ≤ y.id
            · have hno := Lib.hid (hNo.out k x HXK.out (fun h => by have := h.rise y (by omega) hlt HY.out; omega))
              simp only [Act.put]
              refine Mix.wp_region_mix [([0, 1], 2), ([3, 4, 5, 6], 7)] [8, 9, 10, 11, 12, 13, 14, 15, 16, 17, 18, 19, 20, 21, 22, 23] (fun w' => ∃ x : Mix.InS (fun z => Below W4.heap.size W4 z), w' = x.w) (by kernel_rfl) (by kernel_rfl) (Mix.inS_mk (Below.refl _ _).drew) ?_
              have hbd : Below W4.heap.size W4 W4.drew := (Below.refl _ _).drew
              generalize W4.drew = W5 at hbd ⊢
              refine Mix.stages_cons ?_
              simp only [Mix.pickL, List.getElem?_cons_zero, List.getElem?_cons_succ]
              repeat (first
                | go_big_quiet_skip
                | (go_big_quiet_want; first
                  | (refine quiet_load_mid 30 _ rfl b8 0 rfl x.cells _ RB.out Try.underlying30 rfl (opRow x) ?_; simp only [Act.put, List.setIfInBounds_toArray, List.set_cons_succ, List.set_cons_zero]; go_big_quiet_on)
                  | (go_big_quiet_op; go_big_quiet_on)))
              refine wpQuiet_nil ?_
              go_wp2_with (go_at_call 34; refine (KF.out W5 hbd).mono ?_; rintro e W6 ⟨rfl, hb6⟩)
              have hb46 := bthen' hbd hb6
              refine Mix.onward_in hb46 ?_
              refine Mix.stages_cons ?_
              simp only [Mix.pickL, List.getElem?_cons_zero, List.getElem?_cons_succ]
              repeat (first
                | go_big_quiet_skip
                | (go_big_quiet_want; first
                  | (refine quiet_load_mid 30 _ rfl b8 0 rfl x.cells _ RB.out Try.underlying30 rfl (opRow x) ?_; simp only [Act.put, List.setIfInBounds_toArray, List.set_cons_succ, List.set_cons_zero]; go_big_quiet_on)
                  | (go_big_quiet_op; go_big_quiet_on)))
              refine wpQuiet_nil ?_
              go_wp2_with (go_at_call 26; refine (KT.out _).mono ?_; rintro e w' ⟨rfl, rfl⟩)
              refine Mix.onward_in hb46 ?_
              refine Mix.stages_nil ?_
              simp only [Mix.pickL, List.getElem?_cons_zero, List.getElem?_cons_succ]
              repeat (first
                | go_big_quiet_skip
                | (go_big_quiet_want; first
                  | (refine quiet_load_mid 30 _ rfl b8 0 rfl x.cells _ RB.out Try.underlying30 rfl (opRow x) ?_; simp only [Act.put, List.setIfInBounds_toArray, List.set_cons_succ, List.set_cons_zero]; go_big_quiet_on)
                  | (go_big_quiet_op; go_big_quiet_on)))
              refine wpQuiet_nil ?_
              go_wp2_with fail
              go_ret2
              exact NO.out _ _ hno.out rfl (bthen' L4.out.below hb46)
            · have HOK := Lib.hid (show StepOk next L X k x from ⟨f2, f3, F1.out, E2.out, fun z h1 h2 h3 => by rw [HY.out] at h3; cases h3; omega⟩)
              simp only [Act.put]
              refine Mix.wp_region_mix [([0, 1], 2), ([3, 4, 5, 6], 7)] [8, 9, 10, 11, 12, 13, 14, 15, 16, 17, 18, 19, 20, 21, 22, 23] (fun w' => ∃ x : Mix.InS (fun z => Below W4.heap.size W4 z), w' = x.w) (by kernel_rfl) (by kernel_rfl) (Mix.inS_mk (Below.refl _ _).drew) ?_
              have hbd : Below W4.heap.size W4 W4.drew := (Below.refl _ _).drew
              generalize W4.drew = W5 at hbd ⊢
              refine Mix.stages_cons ?_
              simp only [Mix.pickL, List.getElem?_cons_zero, List.getElem?_cons_succ]
              repeat (first
                | go_big_quiet_skip
                | (go_big_quiet_want; first
                  | (refine quiet_load_mid 30 _ rfl b8 0 rfl x.cells _ RB.out Try.underlying30 rfl (opRow x) ?_; simp only [Act.put, List.setIfInBounds_toArray, List.set_cons_succ, List.set_cons_zero]; go_big_quiet_on)
                  | (go_big_quiet_op; go_big_quiet_on)))
              refine wpQuiet_nil ?_
              go_wp2_with (go_at_call 34; refine (KF.out W5 hbd).mono ?_; rintro e W6 ⟨rfl, hb6⟩)
              have hb46 := bthen' hbd hb6
              refine Mix.onward_in hb46 ?_
              refine Mix.stages_cons ?_
              simp only [Mix.pickL, List.getElem?_cons_zero, List.getElem?_cons_succ]
              repeat (first
                | go_big_quiet_skip
                | (go_big_quiet_want; first
                  | (refine quiet_load_mid 30 _ rfl b8 0 rfl x.cells _ RB.out Try.underlying30 rfl (opRow x) ?_; simp only [Act.put, List.setIfInBounds_toArray, List.set_cons_succ, List.set_cons_zero]; go_big_quiet_on)
                  | (go_big_quiet_op; go_big_quiet_on)))
              refine wpQuiet_nil ?_
              go_wp2_with (go_at_call 26; refine (KT.out _).mono ?_; rintro e w' ⟨rfl, rfl⟩)
              refine Mix.onward_in hb46 ?_
              refine Mix.stages_nil ?_
              simp only [Mix.pickL, List.getElem?_cons_zero, List.getElem?_cons_succ]
              repeat (first
                | go_big_quiet_skip
                | (go_big_quiet_want; first
                  | (refine quiet_load_mid 30 _ rfl b8 0 rfl x.cells _ RB.out Try.underlying30 rfl (opRow x) ?_; simp only [Act.put, List.setIfInBounds_toArray, List.set_cons_succ, List.set_cons_zero]; go_big_quiet_on)
                  | (go_big_quiet_op; go_big_quiet_on)))
              refine wpQuiet_nil ?_
              have L6 := Lib.hid (L4.out.later hb46)
              have HM6 := Lib.hid (HM4.out.below hb46)
              have x6 := (HX4.out.below hb46).range
              have q6 := L6.out.cq
              have KE := Lib.hid (enter_any T W6 t keep 1 lv ev m fm sl _ _ _ _ HM6.out x (by rw [ids_len]; rw [List.length_take]; omega) (by have := flt_len (L.take k) x.fli; rw [List.length_take] at this; omega))
              clear d1 d2 RB hneS L4 HM4 HX4 hbd hb46
              go_wp2_with (first
                | (refine wpList_load_mid rfl 30 _ rfl b8 0 rfl x.cells _ x6 Try.underlying30 rfl (opRow x) ?_)
                | (go_at_call 27; refine KE.out.mono ?_; rintro e W7 ⟨rfl, hu7, lv7, sl7, hm7⟩))
              have L7 := Lib.hid (L6.out.step hu7 (fun k hk => hk))
              have HM7 := Lib.hid (show LMem (Gr T W6 W7) W7 t keep (L.take (k + 1)) [] from by
                have e1 : ids (L.take k) ++ [x.id] = ids (L.take (k + 1)) := by rw [← take_snoc HLX.out, ids_app]; rfl
                have e2 : (fun i => if i = x.id then some (opR.val x) else omap (L.take k) [] i) = omap (L.take (k + 1)) [] := by
                  rw [← take_snoc HLX.out]
                  have := om_snoc (X := L.take k ++ []) (x := x) (by rw [← HT1.out k hk]; exact F1.out)
                  unfold omap
                  rw [this]
                  simp only [List.append_nil]
                have e3 : (fun f => if f = x.fli then flt (L.take k) x.fli ++ [x.id] else flt (L.take k) f) = flt (L.take (k + 1)) := by
                  rw [← take_snoc HLX.out]
                  exact flt_add (L.take k) x
                rw [e1, e2, e3] at hm7
                exact ⟨_, _, _, _, _, hm7⟩)
              go_roundw
              case rel => exact ⟨k + 1, _, by omega, by go_num, L7.out, HM7.out, Lib.hid (fun j y hj hy => by
                by_cases hjk : j = k
                · subst hjk
                  rw [HXK.out] at hy
                  cases hy
                  exact HOK.out
                · exact HE.out j y (by omega) hy)⟩
              case measure => simp [intOf]; omega
    · obtain rfl : k = L.length := by omega
      rw [List.take_length] at LM
      have HE1 := HE
      clear HE
      go_upto_block 2 with fail
      go_wp2_with fail
      go_loopw [68] (fun i wr => ∃ (k : Nat) (T : Nat → Prop), k ≤ D.length ∧ i = .int .i64 k ∧ LdB w wr t q qn next T ∧ LMem T wr t keep L (D.take k) ∧ Hid (∀ j x, j < L.length + k → X[j]? = some x → StepOk next L X j x)) (fun i _ => D.length - (intOf i).toNat)
      case atStart => exact ⟨0, T, by omega, rfl, LB.out, by simpa using LM.out, HE1⟩
      case round =>
        clear LB LM HE1 hLB T
        obtain ⟨k, T, hk, rfl, hLB, hLM, HE⟩ := hrel
        have LB := Lib.hid hLB
        have LM := Lib.hid hLM
        clear hLM
        by_cases hlt : k < D.length
        · obtain ⟨x, hx⟩ : ∃ x, D[k]? = some x := ⟨_, List.getElem?_eq_getElem hlt⟩
          obtain ⟨b, off, rfl, hr⟩ := (HD.out.below hLB.below).at hx
          have HR := Lib.hid hr
          have HDX := Lib.hid hx
          have HXK := Lib.hid (HX2.out k x hx)
          clear hx hr hLB
          go_upto_region 15 with (first
            | (refine wpList_load_mid rfl 30 _ rfl b (off + k * 18) rfl x.cells _ HR.out Try.underlying30 rfl (opRow x) ?_)
            | (refine wpList_store_row rfl 30 _ _ rfl wr.heap.size x.cells.toArray rfl rfl 30 zeroOp.cells.toArray (heap_alloc_new _ _) (opRow' x) rfl (opOne x) ?_))
          show Code.wp _ _ _ _ ((wr.alloc (.cells zeroOp.cells.toArray 30)).setRow wr.heap.size x.cells.toArray)
          have hb3 : Below wr.heap.size wr ((wr.alloc (.cells zeroOp.cells.toArray 30)).setRow wr.heap.size x.cells.toArray) := below_row ((Below.refl _ _).alloc (Nat.le_refl _) _) (Nat.le_refl _) _
          have hx3 : Cel ((wr.alloc (.cells zeroOp.cells.toArray 30)).setRow wr.heap.size x.cells.toArray) wr.heap.size x.cells := cel_of_row (setRow_heap _ _ _ _ _ _ (heap_alloc_new _ _))
          generalize (wr.alloc (.cells zeroOp.cells.toArray 30)).setRow wr.heap.size x.cells.toArray = W4 at hb3 hx3 ⊢
          obtain ⟨b8, hb8⟩ : ∃ b8, b8 = wr.heap.size := ⟨_, rfl⟩
          rw [← hb8] at hx3 ⊢
          have L4 := Lib.hid (LB.out.later hb3)
          obtain ⟨lv, ev, m, fm, sl, hm⟩ := LM.out
          have HT8 := Lib.hid (show ¬ T b8 from fun h9 => by have := hm.lt b8 h9; omega)
          have HM4 := Lib.hid (hm.below hb3)
          have HX4 := Lib.hid hx3
          clear hb3 hx3 LB LM hm HR hb8
          obtain ⟨n4, hop4⟩ := HM4.out.ops
          have KF := Lib.hid (fresh_any W4 q qn t m fm n4 _ _ _ _ next (L ++ D.take k) x L4.out.cq L4.out.cn HM4.out.box hop4)
          have KT := Lib.hid (fun W => terminal_any x.st W)
          have x4 := HX4.out.range
          clear hop4
          cases e1 : freshB next (L ++ D.take k) x with
          | false =>
            have hno := Lib.hid (hNo.out (L.length + k) x HXK.out (fun h => by rw [fresh_ok (HT2.out k) h] at e1; cases e1))
            unfold FreshP at KF
            rw [e1] at KF
            clear e1
            go_wp2_with (first
              | (refine wpList_load_mid rfl 30 _ rfl b8 0 rfl x.cells _ x4 Try.underlying30 rfl (opRow x) ?_)
              | (go_at_call 34; refine KF.out.mono ?_; rintro e W5 ⟨rfl, hb5⟩))
            go_ret2
            exact NO.out _ _ hno.out rfl (bthen' L4.out.below hb5)
          | true =>
            obtain ⟨f1, f2, f3⟩ := ok_fresh (HT2.out k) e1
            have F1 := Lib.hid f1
            have G1 := Lib.hid (show got (L ++ D.take k) x.id = none from by rw [← HT2.out k]; exact f1)
            unfold FreshP at KF
            rw [e1] at KF
            clear e1 f1
            cases e2 : term x.st with
            | false =>
              have hno := Lib.hid (hNo.out (L.length + k) x HXK.out (fun h => by have := h.st; rw [e2, decide_eq_true (by omega)] at this; cases this))
              rw [e2] at KT
              clear e2
              go_wp2_with (first
                | (refine wpList_load_mid rfl 30 _ rfl b8 0 rfl x.cells _ x4 Try.underlying30 rfl (opRow x) ?_)
                | (go_at_call 26; refine (KT.out _).mono ?_; rintro e w' ⟨rfl, rfl⟩)
                | (go_at_call 34; refine KF.out.mono ?_; rintro e W5 ⟨rfl, hb5⟩; have c8 := (HX4.out.below hb5).get (i := 8) rfl))
              go_ret2
              exact NO.out _ _ hno.out rfl (bthen' L4.out.below hb5)
            | true =>
              have HOK := Lib.hid (show StepOk next L X (L.length + k) x from ⟨f2, f3, F1.out, by rw [e2, decide_eq_true (by omega)], fun y h1 h2 => by omega⟩)
              rw [e2] at KT
              clear e2 f2 f3
              go_upto_region 17 with (first
                | (refine wpList_load_mid rfl 30 _ rfl b8 0 rfl x.cells _ x4 Try.underlying30 rfl (opRow x) ?_)
                | (go_at_call 26; refine (KT.out _).mono ?_; rintro e w' ⟨rfl, rfl⟩)
                | (go_at_call 34; refine KF.out.mono ?_; rintro e W5 ⟨rfl, hb5⟩; have c8 := (HX4.out.below hb5).get (i := 8) rfl))
              clear c8 x4 KF KT
              have HX5 := Lib.hid (HX4.out.below hb5)
              have HM5 := Lib.hid (HM4.out.below hb5)
              have L5 := Lib.hid (L4.out.later hb5)
              clear HX4 HM4 L4 hb5
              have hbd : Below W5.heap.size W5 W5.drew := (Below.refl _ _).drew
              have hk17 := Lib.hid (show (fun z : World => z.cell? ⟨q, 0, none⟩ = some (.pointer (some ⟨t, 0, none⟩)) ∧ z.cell? ⟨t, 4, none⟩ = some (.map (some m)) ∧ z.rangeAt b8 0 x.cells) W5 from ⟨L5.out.cq, HM5.out.box.get (i := 4) rfl, HX5.out.range⟩)
              have hneS : Nonempty (Mix.InS (fun z => z.cell? ⟨q, 0, none⟩ = some (.pointer (some ⟨t, 0, none⟩)) ∧ z.cell? ⟨t, 4, none⟩ = some (.map (some m)) ∧ z.rangeAt b8 0 x.cells)) := ⟨⟨W5, hk17.out⟩⟩
              have d1 := fun (z : Mix.InS (fun z => z.cell? ⟨q, 0, none⟩ = some (.pointer (some ⟨t, 0, none⟩)) ∧ z.cell? ⟨t, 4, none⟩ = some (.map (some m)) ∧ z.rangeAt b8 0 x.cells)) => z.h.1
              have d2 := fun (z : Mix.InS (fun z => z.cell? ⟨q, 0, none⟩ = some (.pointer (some ⟨t, 0, none⟩)) ∧ z.cell? ⟨t, 4, none⟩ = some (.map (some m)) ∧ z.rangeAt b8 0 x.cells)) => z.h.2.1
              have d3 := fun (z : Mix.InS (fun z => z.cell? ⟨q, 0, none⟩ = some (.pointer (some ⟨t, 0, none⟩)) ∧ z.cell? ⟨t, 4, none⟩ = some (.map (some m)) ∧ z.rangeAt b8 0 x.cells)) => (show z.w.cell? ⟨b8, 0, none⟩ = some (.int .i64 x.id) from by simpa using z.h.2.2 0 _ rfl)
              have RB := Lib.hid (fun (w' : World) (hx : ∃ y : Mix.InS (fun z => z.cell? ⟨q, 0, none⟩ = some (.pointer (some ⟨t, 0, none⟩)) ∧ z.cell? ⟨t, 4, none⟩ = some (.map (some m)) ∧ z.rangeAt b8 0 x.cells), w' = y.w) => (show w'.rangeAt b8 0 x.cells from by obtain ⟨z, rfl⟩ := hx; exact z.h.2.2))
              refine Mix.wp_region_mix [([0, 1, 2, 3, 4, 5, 6], 7)] [] (fun w' => ∃ x : Mix.InS (fun z => z.cell? ⟨q, 0, none⟩ = some (.pointer (some ⟨t, 0, none⟩)) ∧ z.cell? ⟨t, 4, none⟩ = some (.map (some m)) ∧ z.rangeAt b8 0 x.cells), w' = x.w) (by kernel_rfl) (by kernel_rfl) (Mix.inS_mk ⟨below_cell hbd hk17.out.1, below_cell hbd hk17.out.2.1, below_range hbd hk17.out.2.2⟩) ?_
              have L6 := Lib.hid (L5.out.later hbd)
              have HM6 := Lib.hid (HM5.out.below hbd)
              have HX6 := Lib.hid (HX5.out.below hbd)
              generalize W5.drew = W6 at L6 HM6 HX6 ⊢
              clear HM5 L5 HX5 hbd hk17
              refine Mix.stages_cons ?_
              simp only [Mix.pickL, List.getElem?_cons_zero, List.getElem?_cons_succ]
              repeat (first
                | go_big_quiet_skip
                | (go_big_quiet_want; first
                  | (refine quiet_load_mid 30 _ rfl b8 0 rfl x.cells _ RB.out Try.underlying30 rfl (opRow x) ?_; simp only [Act.put, List.setIfInBounds_toArray, List.set_cons_succ, List.set_cons_zero]; go_big_quiet_on)
                  | (go_big_quiet_op; go_big_quiet_on)))
              refine wpQuiet_nil ?_
              obtain ⟨n6, hop⟩ := HM6.out.ops
              have HOP := Lib.hid hop
              clear hop
              go_wp2_with (refine wl_update (intK_ok Try.underlying3) rfl _ _ _ 57 30 rfl Try.underlying57 rfl HOP.out x.id rfl (opR.val x) rfl ?_; intro W7 hu7 hm7)
              have hP7 : UpdP T W6 W7 := UpdP.of hu7 (fun k hk => by simp at hk; subst hk; exact .inl HM6.out.tT.2.1)
              have L7 := Lib.hid (L6.out.step hP7 (fun k hk => .inl hk))
              have HM7 := Lib.hid (HM6.out.setOps hu7 hm7)
              have HX7 := Lib.hid (cel_updP HX6.out hP7 HT8.out (HX6.out.lt (by simp [OpV.cells])))
              clear HM6 L6 HX6 hu7 hm7 hP7 HOP
              refine Mix.onward_in ⟨L7.out.cq, HM7.out.box.get (i := 4) rfl, HX7.out.range⟩ ?_
              refine Mix.stages_nil ?_
              simp only [Mix.pickL]
              refine wpQuiet_nil ?_
              clear d1 d2 d3 RB hneS
              go_upto_region 18 with fail
              obtain ⟨ae, ce, hev⟩ := HM7.out.ends.form
              subst hev
              have hbd : Below W7.heap.size W7 W7.drew := (Below.refl _ _).drew
              have hk18 := Lib.hid (show (fun z : World => z.cell? ⟨q, 0, none⟩ = some (.pointer (some ⟨t, 0, none⟩)) ∧ z.cell? ⟨t, 3, none⟩ = some (.slice ae (ids (D.take k)).length ce) ∧ z.cell? ⟨b8, 0, none⟩ = some (.int .i64 x.id)) W7 from ⟨L7.out.cq, HM7.out.box.get (i := 3) rfl, HX7.out.get (i := 0) rfl⟩)
              have hneS : Nonempty (Mix.InS (fun z => z.cell? ⟨q, 0, none⟩ = some (.pointer (some ⟨t, 0, none⟩)) ∧ z.cell? ⟨t, 3, none⟩ = some (.slice ae (ids (D.take k)).length ce) ∧ z.cell? ⟨b8, 0, none⟩ = some (.int .i64 x.id))) := ⟨⟨W7, hk18.out⟩⟩
              have d1 := fun (z : Mix.InS (fun z => z.cell? ⟨q, 0, none⟩ = some (.pointer (some ⟨t, 0, none⟩)) ∧ z.cell? ⟨t, 3, none⟩ = some (.slice ae (ids (D.take k)).length ce) ∧ z.cell? ⟨b8, 0, none⟩ = some (.int .i64 x.id))) => z.h.1
              have d2 := fun (z : Mix.InS (fun z => z.cell? ⟨q, 0, none⟩ = some (.pointer (some ⟨t, 0, none⟩)) ∧ z.cell? ⟨t, 3, none⟩ = some (.slice ae (ids (D.take k)).length ce) ∧ z.cell? ⟨b8, 0, none⟩ = some (.int .i64 x.id))) => z.h.2.1
              have d3 := fun (z : Mix.InS (fun z => z.cell? ⟨q, 0, none⟩ = some (.pointer (some ⟨t, 0, none⟩)) ∧ z.cell? ⟨t, 3, none⟩ = some (.slice ae (ids (D.take k)).length ce) ∧ z.cell? ⟨b8, 0, none⟩ = some (.int .i64 x.id))) => z.h.2.2
              refine Mix.wp_region_mix_tail 11 [([0, 1, 2, 3, 4, 5, 6], 7), ([], 8)] [9, 10] (fun w' => ∃ x : Mix.InS (fun z => z.cell? ⟨q, 0, none⟩ = some (.pointer (some ⟨t, 0, none⟩)) ∧ z.cell? ⟨t, 3, none⟩ = some (.slice ae (ids (D.take k)).length ce) ∧ z.cell? ⟨b8, 0, none⟩ = some (.int .i64 x.id)), w' = x.w) (by kernel_rfl) (by kernel_rfl) (Mix.inS_mk ⟨below_cell hbd hk18.out.1, below_cell hbd hk18.out.2.1, below_cell hbd hk18.out.2.2⟩) ?_
              simp only [List.take_succ_cons, List.take_zero, List.drop_succ_cons, List.drop_zero]
              generalize W7.drew = W8 at hbd ⊢
              refine Mix.stages_cons ?_
              simp only [Mix.pickL, List.getElem?_cons_zero, List.getElem?_cons_succ]
              repeat (first
                | go_big_quiet_skip
                | (go_big_quiet_want; (go_big_quiet_op; go_big_quiet_on)))
              refine wpQuiet_nil ?_
              go_wp2_with (refine wl_build_rec intOk rfl _ rfl x.id rfl ?_; have hx9 := built_range (R := intR) (w := W8) x.id; have hb9 : Below W8.heap.size W8 (W8.alloc (.cells (intR.val x.id).cells intR.ty)) := (Below.refl _ _).alloc (Nat.le_refl _) _; generalize W8.alloc (.cells (intR.val x.id).cells intR.ty) = W9 at hx9 hb9 ⊢)
              have HB9 := Lib.hid (bthen' hbd hb9)
              have HM9 := Lib.hid (HM7.out.below HB9.out)
              have L9 := Lib.hid (L7.out.later HB9.out)
              have HX9 := Lib.hid (HX7.out.below HB9.out)
              have hx9c : W9.cell? ⟨W8.heap.size, 0, none⟩ = some (.int .i64 x.id) := by have := hx9 0 _ rfl; simpa [intR] using this
              have hs89 := hb9.size
              have hs78 := hbd.size
              have hk9 : W9.cell? ⟨q, 0, none⟩ = some (.pointer (some ⟨t, 0, none⟩)) ∧ W9.cell? ⟨t, 3, none⟩ = some (.slice ae (ids (D.take k)).length ce) ∧ W9.cell? ⟨b8, 0, none⟩ = some (.int .i64 x.id) := ⟨L9.out.cq, HM9.out.box.get (i := 3) rfl, HX9.out.get (i := 0) rfl⟩
              have hil : (ids (D.take k)).length ≤ 500 := by rw [ids_len, List.length_take]; omega
              clear hx9 hb9 hbd
              refine Mix.onward_in hk9 ?_
              refine Mix.stages_cons ?_
              simp only [Mix.pickL, List.getElem?_cons_zero, List.getElem?_cons_succ]
              refine wpQuiet_nil ?_
              have HQ9 := Lib.hid HM9.out.ends
              go_wp2_with (refine wl_app rfl _ _ rfl 0 _ (ids (D.take k)) rfl HQ9.out W8.heap.size 1 x.id rfl hx9c (by omega) (by omega) ?_; intro v8 W10 hO8 hU8 hq8)
              replace hU8 : Upd (qF (.slice ae (ids (D.take k)).length ce)) W9 W10 := hU8
              replace hq8 : ∀ k2 ∈ qF v8, k2 ∈ qF (.slice ae (ids (D.take k)).length ce) ∨ W9.heap.size ≤ k2 := hq8
              have hP10 : UpdP T W9 W10 := UpdP.of hU8 (fun k2 hk2 => .inl (HM9.out.de k2 (qF_own hk2)).1)
              have hnt : t ∉ qF (.slice ae (ids (D.take k)).length ce) := fun hin => (HM9.out.de t (qF_own hin)).2.1 rfl
              have L10 := Lib.hid (L9.out.step hP10 (fun k hk => .inl hk))
              have HX10 := Lib.hid (cel_updP HX9.out hP10 HT8.out (HX9.out.lt (by simp [OpV.cells])))
              have hk10 : W10.cell? ⟨q, 0, none⟩ = some (.pointer (some ⟨t, 0, none⟩)) ∧ W10.cell? ⟨t, 3, none⟩ = some (.slice ae (ids (D.take k)).length ce) ∧ W10.cell? ⟨b8, 0, none⟩ = some (.int .i64 x.id) := ⟨L10.out.cq, hU8.cell hnt hk9.2.1, HX10.out.get (i := 0) rfl⟩
              have hf10 : W10.frozen? ⟨t, 3, none⟩ = false := (hU8.frozen hnt hk9.2.1).trans (HM9.out.box.free (i := 3) rfl)
              refine Mix.onward_in hk10 ?_
              refine Mix.stages_nil ?_
              simp only [Mix.pickL, List.getElem?_cons_zero, List.getElem?_cons_succ]
              repeat (first
                | go_big_quiet_skip
                | (go_big_quiet_want; (go_big_quiet_op; go_big_quiet_on)))
              refine wpQuiet_nil ?_
              clear d1 d2 d3 hneS
              have c3 := hk10.2.1
              have HO8 := Lib.hid hO8
              obtain ⟨a8, n8, hv8⟩ := hO8.form
              have hlD : (ids (D.take k) ++ [x.id]).length = (ids (D.take k)).length + 1 := by simp
              rw [hlD] at hv8
              subst hv8
              clear hO8 hk9 hk10 hk18
              have hme := HM9.out.setEnds hU8 (fun k hk => .inl (qF_own hk)) HO8.out (fun k hk => by
                have hin := own_qF HO8.out (by simp) hk
                rcases hq8 k hin with h9 | h9
                · exact .inl (qF_own h9)
                · exact .inr ⟨h9, (HO8.out.low k hin).2⟩)
              have hS11 : Upd [t] W10 (W10.setCell ⟨t, 3, none⟩ (.slice a8 ((ids (D.take k)).length + 1) n8)) := (Upd.refl _ _).setCell (by simp) _
              have HME := Lib.hid hme
              have hP11 : UpdP (Gr T W9 W10) W10 (W10.setCell ⟨t, 3, none⟩ (.slice a8 ((ids (D.take k)).length + 1) n8)) := UpdP.of hS11 (fun k2 hk2 => by simp at hk2; subst hk2; exact .inl (.inl HM9.out.tT.1))
              have L11 := Lib.hid ((L9.out.step hP10 (fun k hk => hk)).step hP11 (fun k hk => .inl hk))
              clear hme hS11 hP11 hP10 hU8 hq8
              go_wp2_with fail
              simp only [Mix.OnlyN]
              go_wp2_with fail
              have HMF := Lib.hid (show LMem (Gr T W9 W10) (W10.setCell ⟨t, 3, none⟩ (.slice a8 ((ids (D.take k)).length + 1) n8)) t keep L (D.take (k + 1)) from by
                have e1 : ids (D.take k) ++ [x.id] = ids (D.take (k + 1)) := by rw [← take_snoc HDX.out, ids_app]; rfl
                have e2 : (fun i => if i = x.id then some (opR.val x) else omap L (D.take k) i) = omap L (D.take (k + 1)) := by
                  rw [← take_snoc HDX.out]
                  have := om_snoc (X := L ++ D.take k) (x := x) G1.out
                  unfold omap
                  rw [this]
                  simp only [List.append_assoc]
                have h9 := HME.out
                rw [e1, e2] at h9
                exact ⟨_, _, _, _, _, h9⟩)
              go_roundw
              case rel => exact ⟨k + 1, _, by omega, by go_num, L11.out, HMF.out, Lib.hid (fun j y hj hy => by
                by_cases hjk : j = L.length + k
                · subst hjk
                  rw [HXK.out] at hy
                  cases hy
                  exact HOK.out
                · exact HE.out j y (by omega) hy)⟩
              case measure => simp [intOf]; omega
        · obtain rfl : k = D.length := by omega
          rw [List.take_length] at LM
          obtain ⟨lv, ev, m, fm, sl, hm⟩ := LM.out
          have HMay := Lib.hid (hYes.out HE.out)
          have q3 := LB.out.cq
          have n3 := LB.out.cn
          have c1 := hm.box.get (i := 1) rfl
          have f1 := hm.box.free (i := 1) rfl
          have HM := Lib.hid hm
          clear hm hLB
          go_wp2_with fail
          go_ret2
          have hmn := HM.out.setNext next
          exact .inl ⟨t, T, HMay.out, rfl, (Upd.refl [t] wr).setCell (show t ∈ [t] by simp) (p := ⟨t, 1, none⟩) _ |>.toBelow LB.out.below LB.out.below.size (by simpa using LB.out.lo t HM.out.tT.1), ⟨HMay.out.inv, _, _, _, _, _, hmn⟩, LB.out.lo⟩
end Go.Proofs.Ytddmajgadaooaaa
