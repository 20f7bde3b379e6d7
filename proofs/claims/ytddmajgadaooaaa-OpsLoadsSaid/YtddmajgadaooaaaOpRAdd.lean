/- The document's table in memory; its Add. (Printed by genopradd.py.) -/
import Derived.Test.YtddmajgadaooaaaOpRef2
import Derived.Test.YtddmajgadaooaaaTreeT
import Derived.Test.YtddmajgadaooaaaTwoApp
set_option linter.unusedVariables false
namespace Go.Proofs.Ytddmajgadaooaaa
open Go.RowKit

theorem wl_build_none_rec {α : Type} {R : Rec α} (k : R.Ok) {ops : Array Oper} {rest : List Oper} {o : Oper} {a : Act} {w : World} {Q : Exit → Act → World → Prop} (hgd : o.guard = none) (ho : o.op = .buildSlice R.st 0 #[])
    (h : wpList Try.prog ops Q rest (a.put o.dst (.slice (some ⟨w.heap.size, 0, none⟩) 0 0)) (w.alloc (.cells #[] R.ty))) : wpList Try.prog ops Q (o :: rest) a w :=
  wpList_plain hgd fun _ hK2 => wp_build_none_rec k ho (hK2 _ _ h)

/-- Reads as these, and lies in no block of N. -/
def ReadsN (N : Nat → Prop) (w : World) (v : Value) (L : List OpV) : Prop :=
  (L = [] ∧ ∃ a cap, v = .slice a 0 cap) ∨ (∃ b off cap, v = .slice (some ⟨b, off, none⟩) L.length cap ∧ ¬ N b ∧ b < w.heap.size ∧ ∀ i x, L[i]? = some x → w.rangeAt b (off + i * opR.n) (opR.cells x))
theorem ReadsN.reads {N : Nat → Prop} {w : World} {v : Value} {L : List OpV} (h : ReadsN N w v L) : Reads opR w v L := by
  rcases h with h | ⟨b, off, cap, h1, -, -, h2⟩
  · exact .inl h
  · exact .inr ⟨b, off, cap, h1, h2⟩
theorem ReadsN.form {N : Nat → Prop} {w : World} {v : Value} {L : List OpV} (h : ReadsN N w v L) : ∃ a cap, v = .slice a L.length cap := h.reads.form
theorem range_of_heap {w w' : World} {b o : Nat} {cs : List Value} (h : w.rangeAt b o cs) (he : w'.heap[b]? = w.heap[b]?) : w'.rangeAt b o cs := fun j v hv => by
  have := h j v hv
  unfold World.cell? at this ⊢
  rw [he]
  exact this
theorem ReadsN.updP {N T : Nat → Prop} {w w' : World} {v : Value} {L : List OpV} (h : ReadsN N w v L) (hu : UpdP T w w') (hT : ∀ k, T k → N k) : ReadsN N w' v L := by
  rcases h with h | ⟨b, off, cap, h1, hn, hlt, h2⟩
  · exact .inl h
  · exact .inr ⟨b, off, cap, h1, hn, Nat.lt_of_lt_of_le hlt hu.size, fun i x hx => range_of_heap (h2 i x hx) (hu.block b hlt (fun hb => hn (hT b hb)))⟩
theorem ReadsN.other {N N' : Nat → Prop} {w : World} {v : Value} {L : List OpV} (h : ReadsN N w v L) (hN : ∀ k, k < w.heap.size → N' k → N k) : ReadsN N' w v L := by
  rcases h with h | ⟨b, off, cap, h1, hn, hlt, h2⟩
  · exact .inl h
  · exact .inr ⟨b, off, cap, h1, fun hb => hn (hN b hlt hb), hlt, h2⟩
theorem Owns.readsN {B : Nat} {N : Nat → Prop} {w : World} {v : Value} {L : List OpV} (h : Owns opR B w v L) (hN : ∀ k, B ≤ k → k < w.heap.size → ¬ N k) : ReadsN N w v L := by
  rcases h.nilOf with ⟨h1, h2⟩ | ⟨g, cap, h1, h2, h3⟩
  · exact .inl ⟨h2, _, _, h1⟩
  · rcases h.lts opOk with ⟨h4, h5⟩ | ⟨b, off, cap', h4, h5⟩
    · exact .inl ⟨h4, h5⟩
    · rw [h1] at h4
      cases h4
      exact .inr ⟨g, 0, cap, h1, hN g h2 h3, h3, h5⟩
/-- The document's table in memory, apart from the blocks of T. -/
def RT (T : Nat → Prop) (w : World) (r : Nat) (keep next : Int) (L D : List OpV) : Prop :=
  ∃ vl ve, Cel w r [.int .i64 keep, .int .i64 next, vl, ve] ∧ ¬ T r ∧ r < w.heap.size ∧ ReadsN (fun k => T k ∨ k = r) w vl L ∧ ReadsN (fun k => T k ∨ k = r) w ve D
theorem cel_of_heap {w w' : World} {b : Nat} {vs : List Value} (h : Cel w b vs) (he : w'.heap[b]? = w.heap[b]?) : Cel w' b vs := fun i v hv => by
  have := h i v hv
  unfold World.cell? World.frozen? at this ⊢
  rw [he]
  exact this
theorem RT.updP {T : Nat → Prop} {w w' : World} {r : Nat} {keep next : Int} {L D : List OpV} (h : RT T w r keep next L D) (hu : UpdP T w w') : RT (Gr T w w') w' r keep next L D := by
  obtain ⟨vl, ve, hc, hr, hlt, h1, h2⟩ := h
  have hg : ∀ k, k < w.heap.size → (Gr T w w' k ∨ k = r) → (T k ∨ k = r) := fun k hk h9 => by
    rcases h9 with (h9 | h9) | h9
    · exact .inl h9
    · omega
    · exact .inr h9
  have hs := hu.size
  refine ⟨vl, ve, cel_of_heap hc (hu.block r hlt hr), fun h9 => by rcases h9 with h9 | h9; exact hr h9; omega, by omega, ?_, ?_⟩
  · exact ((h1.other hg).updP hu (fun k hk => .inl (.inl hk)))
  · exact ((h2.other hg).updP hu (fun k hk => .inl (.inl hk)))
theorem RT.below {T : Nat → Prop} {w w' : World} {r : Nat} {keep next : Int} {L D : List OpV} (h : RT T w r keep next L D) (hb : Below w.heap.size w w') : RT T w' r keep next L D := by
  obtain ⟨vl, ve, hc, hr, hlt, h1, h2⟩ := h
  have hu : UpdP (fun _ => False) w w' := UpdP.ofB hb
  exact ⟨vl, ve, hc.below hb, hr, Nat.lt_of_lt_of_le hlt hb.size, h1.updP hu (fun k hk => hk.elim), h2.updP hu (fun k hk => hk.elim)⟩
def RAddP (T : Nat → Prop) (w : World) (r : Nat) (keep next : Int) (L D : List OpV) (o : OpV) (e : Ending) (w' : World) : Prop :=
  e = .returned (.int .i64 (addE next o)) ∧ Upd [r] w w' ∧ RT T w' r keep (addN next o) (addL next L o) D

set_option maxRecDepth 100000 in
set_option maxHeartbeats 4000000 in
theorem radd_bad (T : Nat → Prop) (w : World) (r : Nat) (keep next : Int) (L D : List OpV) (h : RT T w r keep next L D) (o : OpV) (hbad : addBad next o = true) :
    Calls Try.prog 19 #[.pointer (some ⟨r, 0, none⟩), .agg o.cells.toArray] w (RAddP T w r keep next L D o) := by
  have hb1 : Below w.heap.size w (w.alloc (.cells o.cells.toArray 30)) := (Below.refl _ _).alloc (Nat.le_refl _) _
  have hn1 : (w.alloc (.cells o.cells.toArray 30)).heap[w.heap.size]? = some (.cells o.cells.toArray 30 (0, 0)) := heap_alloc_new _ _
  obtain ⟨W1, hW1⟩ : ∃ W1, W1 = w.alloc (.cells o.cells.toArray 30) := ⟨_, rfl⟩
  rw [← hW1] at hb1 hn1
  have H1 := Lib.hid (h.below hb1)
  have HB1 := Lib.hid hb1
  have k0 : W1.cell? ⟨w.heap.size, 0, none⟩ = some (.int .i64 o.id) := by simpa using (op_range hn1) 0 _ rfl
  have k8 : W1.cell? ⟨w.heap.size, 8, none⟩ = some (.int .i64 o.st) := by simpa using (op_range hn1) 8 _ rfl
  obtain ⟨vl, ve, hc, -⟩ := H1.out
  have c1 := hc.get (i := 1) rfl
  clear hc
  have KO := Lib.hid (fun W => rterminal_any o.st W)
  have eE := Lib.hid (show addE next o = 1 from by unfold addE; rw [if_pos hbad])
  have eN := Lib.hid (show addN next o = next from by unfold addN; rw [if_pos hbad])
  have eL := Lib.hid (show addL next L o = L from by unfold addL; rw [if_pos hbad])
  clear h hn1
  go_enter Try.func19, Try.ntmps19
  go_upto_region 1 with fail
  show Code.wp _ _ _ _ (w.alloc (.cells o.cells.toArray 30))
  rw [← hW1]
  clear hW1 hb1
  have d0 := fun (z : Later W1) => z.cell k0
  have d1 := fun (z : Later W1) => z.cell k8
  have d2 := fun (z : Later W1) => z.cell c1
  cases hid : decide (o.id = next) with
  | true =>
    have hide : o.id = next := of_decide_eq_true hid
    have ht : term o.st = true := by unfold addBad at hbad; rw [show decide (o.id ≠ next) = false from by simp [hide]] at hbad; simpa using hbad
    rw [ht] at KO
    clear hid hbad ht
    refine Mix.wp_region_mix [([0, 1, 2, 3, 4, 5, 6, 7, 8, 9], 10)] [11] (fun w' => ∃ x : Later W1, w' = x.w) (by kernel_rfl) (by kernel_rfl) (Mix.later_drew W1) ?_
    have hb2 : Below W1.heap.size W1 W1.drew := (Below.refl _ _).drew
    generalize W1.drew = W2 at hb2 ⊢
    refine Mix.stages_cons ?_
    simp only [Mix.pickL, List.getElem?_cons_zero, List.getElem?_cons_succ]
    repeat (first
      | go_big_quiet_skip
      | (go_big_quiet_want; (go_big_quiet_op; go_big_quiet_on)))
    refine wpQuiet_nil ?_
    go_wp2_with (go_at_call 16; refine (KO.out _).mono ?_; rintro e w' ⟨rfl, rfl⟩)
    refine Mix.onward_normal (W := W1) hb2 ?_
    refine Mix.stages_nil ?_
    simp only [Mix.pickL, List.getElem?_cons_zero, List.getElem?_cons_succ]
    repeat (first
      | go_big_quiet_skip
      | (go_big_quiet_want; (go_big_quiet_op; go_big_quiet_on)))
    refine wpQuiet_nil ?_
    clear d0 d1 d2
    go_wp2_with fail
    go_ret
    exact ⟨by rw [eE.out]; rfl, Upd.ofBelow _ (bthen' HB1.out hb2), by rw [eN.out, eL.out]; exact H1.out.below hb2⟩
  | false =>
    have hide : ¬ o.id = next := of_decide_eq_false hid
    have hidn : (o.id != next) = true := by simp [hide]
    clear hid hbad
    refine Mix.wp_region_mix [([0, 1, 2, 3, 4, 5, 6, 7, 8, 9], 10)] [11] (fun w' => ∃ x : Later W1, w' = x.w) (by kernel_rfl) (by kernel_rfl) (Mix.later_drew W1) ?_
    have hb2 : Below W1.heap.size W1 W1.drew := (Below.refl _ _).drew
    generalize W1.drew = W2 at hb2 ⊢
    refine Mix.stages_cons ?_
    simp only [Mix.pickL, List.getElem?_cons_zero, List.getElem?_cons_succ]
    repeat (first
      | go_big_quiet_skip
      | (go_big_quiet_want; (go_big_quiet_op; go_big_quiet_on)))
    refine wpQuiet_nil ?_
    go_wp2_with fail
    refine Mix.onward_normal (W := W1) hb2 ?_
    refine Mix.stages_nil ?_
    simp only [Mix.pickL, List.getElem?_cons_zero, List.getElem?_cons_succ]
    repeat (first
      | go_big_quiet_skip
      | (go_big_quiet_want; (go_big_quiet_op; go_big_quiet_on)))
    refine wpQuiet_nil ?_
    clear d0 d1 d2
    go_wp2_with fail
    go_ret
    exact ⟨by rw [eE.out]; rfl, Upd.ofBelow _ (bthen' HB1.out hb2), by rw [eN.out, eL.out]; exact H1.out.below hb2⟩

set_option maxRecDepth 100000 in
set_option maxHeartbeats 4000000 in
theorem radd_ok (T : Nat → Prop) (w : World) (r : Nat) (keep next : Int) (L D : List OpV) (h : RT T w r keep next L D) (o : OpV) (hbad : addBad next o = false) (hn : 0 ≤ next ∧ next ≤ 1000000) (hL : L.length ≤ 900) (hTlt : ∀ k, T k → k < w.heap.size) :
    Calls Try.prog 19 #[.pointer (some ⟨r, 0, none⟩), .agg o.cells.toArray] w (RAddP T w r keep next L D o) := by
  have hb1 : Below w.heap.size w (w.alloc (.cells o.cells.toArray 30)) := (Below.refl _ _).alloc (Nat.le_refl _) _
  have hn1 : (w.alloc (.cells o.cells.toArray 30)).heap[w.heap.size]? = some (.cells o.cells.toArray 30 (0, 0)) := heap_alloc_new _ _
  obtain ⟨W1, hW1⟩ : ∃ W1, W1 = w.alloc (.cells o.cells.toArray 30) := ⟨_, rfl⟩
  rw [← hW1] at hb1 hn1
  have H1 := Lib.hid (h.below hb1)
  have HB1 := Lib.hid hb1
  have HN1 := Lib.hid hn1
  have HTL := Lib.hid hTlt
  have k0 : W1.cell? ⟨w.heap.size, 0, none⟩ = some (.int .i64 o.id) := by simpa using (op_range hn1) 0 _ rfl
  have k8 : W1.cell? ⟨w.heap.size, 8, none⟩ = some (.int .i64 o.st) := by simpa using (op_range hn1) 8 _ rfl
  obtain ⟨vl, ve, hc, hTr, hrlt, hvl, hve⟩ := H1.out
  have HC := Lib.hid hc
  have HTr := Lib.hid hTr
  have HVL := Lib.hid hvl
  have HVE := Lib.hid hve
  have HRL := Lib.hid hrlt
  have hrw : r < w.heap.size := by obtain ⟨_, _, _, _, h9, _⟩ := h; exact h9
  have c1 := hc.get (i := 1) rfl
  obtain ⟨av, cv, rfl⟩ := hvl.form
  clear hc hTr hrlt hvl hve
  have ko := fun W => rterminal_any o.st W
  have eE := Lib.hid (show addE next o = 0 from by unfold addE; rw [if_neg (by simp [hbad])])
  have eN := Lib.hid (show addN next o = next + 1 from by unfold addN; rw [if_neg (by simp [hbad])])
  have eL := Lib.hid (show addL next L o = L ++ [o] from by unfold addL; rw [if_neg (by simp [hbad])])
  unfold addBad at hbad
  rw [Bool.or_eq_false_iff] at hbad
  have hide : o.id = next := by simpa using hbad.1
  rw [hbad.2] at ko
  have KO := Lib.hid ko
  clear h hn1 hbad ko hTlt
  go_enter Try.func19, Try.ntmps19
  go_upto_region 1 with fail
  show Code.wp _ _ _ _ (w.alloc (.cells o.cells.toArray 30))
  rw [← hW1]
  clear hW1 hb1
  have d0 := fun (z : Later W1) => z.cell k0
  have d1 := fun (z : Later W1) => z.cell k8
  have d2 := fun (z : Later W1) => z.cell c1
  refine Mix.wp_region_mix [([0, 1, 2, 3, 4, 5, 6, 7, 8, 9], 10)] [11] (fun w' => ∃ x : Later W1, w' = x.w) (by kernel_rfl) (by kernel_rfl) (Mix.later_drew W1) ?_
  have hb2 : Below W1.heap.size W1 W1.drew := (Below.refl _ _).drew
  generalize W1.drew = W2 at hb2 ⊢
  refine Mix.stages_cons ?_
  simp only [Mix.pickL, List.getElem?_cons_zero, List.getElem?_cons_succ]
  repeat (first
    | go_big_quiet_skip
    | (go_big_quiet_want; (go_big_quiet_op; go_big_quiet_on)))
  refine wpQuiet_nil ?_
  go_wp2_with (go_at_call 16; refine (KO.out _).mono ?_; rintro e w' ⟨rfl, rfl⟩)
  refine Mix.onward_normal (W := W1) hb2 ?_
  refine Mix.stages_nil ?_
  simp only [Mix.pickL, List.getElem?_cons_zero, List.getElem?_cons_succ]
  repeat (first
    | go_big_quiet_skip
    | (go_big_quiet_want; (go_big_quiet_op; go_big_quiet_on)))
  refine wpQuiet_nil ?_
  clear d0 d1 d2
  go_upto_region 3 with fail
  have HN2 := Lib.hid (kept hb2 HN1.out)
  have HB2 := Lib.hid (bthen' HB1.out hb2)
  have HC2 := Lib.hid (HC.out.below hb2)
  have HVR := Lib.hid (HVL.out.reads.below hb2)
  have HVE2 := Lib.hid (HVE.out.updP (UpdP.ofB (P := fun _ => False) hb2) (fun k hk => hk.elim))
  have hs2 := HB2.out.size
  have c2 := HC2.out.get (i := 2) rfl
  have hneS : Nonempty (Mix.InS (fun z => Below W2.heap.size W2 z)) := ⟨⟨W2, Below.refl _ _⟩⟩
  have d0 := fun (z : Mix.InS (fun z => Below W2.heap.size W2 z)) => below_cell z.h c2
  have RT' := Lib.hid (fun (w' : World) (hx : ∃ x : Mix.InS (fun z => Below W2.heap.size W2 z), w' = x.w) => (show w'.rangeAt w.heap.size 0 o.cells from by obtain ⟨z, rfl⟩ := hx; exact below_range z.h (op_range HN2.out)))
  clear hb2 k0 k8 c1
  refine Mix.wp_region_tree_tail 10 (.two [0, 2, 3, 4, 5, 7] 1 (.two [] 6 (.op [] 8 (.op [] 9 (.fin []))) 8 (.op [] 6 (.op [] 9 (.fin [])))) 8 (.op [] 1 (.op [] 6 (.op [] 9 (.fin []))))) (fun w' => ∃ x : Mix.InS (fun z => Below W2.heap.size W2 z), w' = x.w) (by kernel_rfl) (by kernel_rfl) (Mix.inS_mk (Below.refl _ _).drew) ?_
  simp only [List.take_succ_cons, List.take_zero, List.drop_succ_cons, List.drop_zero]
  have TT0 := Lib.hid ((Two.start (R := opR) (W0 := W2) (v := .slice av L.length cv) (L := L) (x := o) (v8 := undef) (v9 := undef) (v10 := undef) (v11 := undef) (v12 := undef) (v13 := undef) (show Below W2.heap.size W2 W2.drew from (Below.refl _ _).drew)).step1.step3)
  generalize W2.drew = X0 at TT0 ⊢
  refine Mix.tree_two ?_
  simp only [Mix.pickL, List.getElem?_cons_zero, List.getElem?_cons_succ]
  repeat (first
    | go_big_quiet_skip
    | (go_big_quiet_want; first
      | (refine quiet_load_mid 30 _ rfl w.heap.size 0 rfl o.cells _ RT'.out Try.underlying30 rfl (opRow o) ?_; simp only [Act.put, List.setIfInBounds_toArray, List.set_cons_succ, List.set_cons_zero]; go_big_quiet_on)
      | (go_big_quiet_op; go_big_quiet_on)))
  refine wpQuiet_nil ?_
  clear d0 RT' hneS
  refine ⟨?_, ?_⟩
  · go_wp2_with (refine wl_build_none_rec opOk rfl rfl ?_)
    have TT1 := Lib.hid TT0.out.step0
    refine Mix.onward_in (W' := X0.alloc (.cells #[] opR.ty)) TT1.out.below ?_
    generalize X0.alloc (.cells #[] opR.ty) = X1 at TT1 ⊢
    refine Mix.tree_two ?_
    simp only [Mix.pickL, List.getElem?_cons_zero, List.getElem?_cons_succ]
    refine wpQuiet_nil ?_
    refine ⟨?_, ?_⟩
    · go_wp2_with (refine wl_append_all opOk rfl _ _ rfl rfl W2.heap.size _ _ [] L rfl rfl (TT1.out.p0 rfl rfl) (HVR.out.below TT1.out.below) (by simp; omega) TT1.out.below.size ?_; intro ua X2 hOa hga hba)
      have TT2 := Lib.hid (TT1.out.step2 hOa hga)
      refine Mix.onward_in (W' := X2) TT2.out.below ?_
      clear hOa hga hba
      refine Mix.tree_op ?_
      simp only [Mix.pickL, List.getElem?_cons_zero, List.getElem?_cons_succ]
      refine wpQuiet_nil ?_
      go_wp2_with (refine wl_build_rec opOk rfl _ rfl o rfl ?_; have TT3 := Lib.hid TT2.out.step4; generalize X2.alloc (.cells (opR.val o).cells opR.ty) = X3 at TT3 ⊢)
      refine Mix.onward_in (W' := X3) TT3.out.below ?_
      refine Mix.tree_op ?_
      simp only [Mix.pickL, List.getElem?_cons_zero, List.getElem?_cons_succ]
      refine wpQuiet_nil ?_
      obtain ⟨cx, hcx, hx1, hx2, hx3, -⟩ := TT3.out.p4 rfl rfl
      cases hcx
      go_wp2_with (refine wl_append_rec opOk rfl _ _ rfl W2.heap.size _ L rfl (TT3.out.p2 rfl rfl) _ 0 1 o rfl hx3 (by omega) TT3.out.below.size ?_; intro gz cz Wz hOz hgz haz)
      have TZ := Lib.hid (TT3.out.step5 hOz hgz)
      refine Mix.onward_in (W' := Wz) TZ.out.below ?_
      clear hOz hgz haz hx1 hx2 hx3
      refine Mix.tree_fin ?_
      simp only [Mix.pickL]
      refine wpQuiet_nil ?_
      (try simp only [Act.put])
      have CZ := HC2.out.below TZ.out.below
      have z2 := CZ.get (i := 2) rfl
      have f2 := CZ.free (i := 2) rfl
      have CY := CZ.set 2 (.slice (some ⟨gz, 0, none⟩) (L.length + 1) cz)
      have HBZ := Lib.hid TZ.out.below
      have HOZ := Lib.hid (TZ.out.p5 rfl)
      have hsz := HBZ.out.size
      clear CZ TZ
      go_wp2_with fail
      simp only [Mix.OnlyN]
      have HUY := Lib.hid ((Upd.refl [r] Wz).setCell (show r ∈ [r] by simp) (p := ⟨r, 2, none⟩) (.slice (some ⟨gz, 0, none⟩) (L.length + 1) cz))
      generalize Wz.setCell ⟨r, 2, none⟩ (.slice (some ⟨gz, 0, none⟩) (L.length + 1) cz) = Wy at CY HUY ⊢
      have y1 := CY.get (i := 1) rfl
      have g1 := CY.free (i := 1) rfl
      have CX := Lib.hid (CY.set 1 (.int .i64 (next + 1)))
      clear CY z2 f2 c2
      go_upto_region 5 with fail
      have HUX := Lib.hid (HUY.out.setCell (show r ∈ [r] by simp) (p := ⟨r, 1, none⟩) (.int .i64 (next + 1)))
      generalize Wy.setCell ⟨r, 1, none⟩ (.int .i64 (next + 1)) = Wx at CX HUX ⊢
      clear y1 g1
      go_wp2_with fail
      go_ret
      have hnr : r ∉ ([] : List Nat) := by simp
      have hUall : Upd [r] w Wx := (Upd.ofBelow [r] HB2.out).trans ((Upd.ofBelow [r] HBZ.out).trans HUX.out)
      have hsx := HUX.out.size
      have hPx : UpdP (fun k => T k ∨ k = r) Wz Wx := UpdP.of HUX.out (fun k hk => by simp at hk; exact .inl (.inr hk))
      refine ⟨by rw [eE.out]; rfl, hUall, ?_⟩
      rw [eN.out, eL.out]
      refine ⟨_, _, CX.out, HTr.out, by omega, ?_, ?_⟩
      · refine (Owns.readsN HOZ.out (fun k hk hk2 h9 => ?_)).updP hPx (fun k hk => hk)
        rcases h9 with h9 | h9
        · have := HTL.out k h9; omega
        · omega
      · exact (HVE2.out.updP (UpdP.ofB (P := fun _ => False) HBZ.out) (fun k hk => hk.elim)).updP hPx (fun k hk => hk)
    · go_wp2_with (refine wl_build_rec opOk rfl _ rfl o rfl ?_; have TT2 := Lib.hid TT1.out.step4; generalize X1.alloc (.cells (opR.val o).cells opR.ty) = X2 at TT2 ⊢)
      refine Mix.onward_in (W' := X2) TT2.out.below ?_
      refine Mix.tree_op ?_
      simp only [Mix.pickL, List.getElem?_cons_zero, List.getElem?_cons_succ]
      refine wpQuiet_nil ?_
      go_wp2_with (refine wl_append_all opOk rfl _ _ rfl rfl W2.heap.size _ _ [] L rfl rfl (TT2.out.p0 rfl rfl) (HVR.out.below TT2.out.below) (by simp; omega) TT2.out.below.size ?_; intro ua X3 hOa hga hba)
      have TT3 := Lib.hid (TT2.out.step2 hOa hga)
      refine Mix.onward_in (W' := X3) TT3.out.below ?_
      clear hOa hga hba
      refine Mix.tree_op ?_
      simp only [Mix.pickL, List.getElem?_cons_zero, List.getElem?_cons_succ]
      refine wpQuiet_nil ?_
      obtain ⟨cx, hcx, hx1, hx2, hx3, -⟩ := TT3.out.p4 rfl rfl
      cases hcx
      go_wp2_with (refine wl_append_rec opOk rfl _ _ rfl W2.heap.size _ L rfl (TT3.out.p2 rfl rfl) _ 0 1 o rfl hx3 (by omega) TT3.out.below.size ?_; intro gz cz Wz hOz hgz haz)
      have TZ := Lib.hid (TT3.out.step5 hOz hgz)
      refine Mix.onward_in (W' := Wz) TZ.out.below ?_
      clear hOz hgz haz hx1 hx2 hx3
      refine Mix.tree_fin ?_
      simp only [Mix.pickL]
      refine wpQuiet_nil ?_
      (try simp only [Act.put])
      have CZ := HC2.out.below TZ.out.below
      have z2 := CZ.get (i := 2) rfl
      have f2 := CZ.free (i := 2) rfl
      have CY := CZ.set 2 (.slice (some ⟨gz, 0, none⟩) (L.length + 1) cz)
      have HBZ := Lib.hid TZ.out.below
      have HOZ := Lib.hid (TZ.out.p5 rfl)
      have hsz := HBZ.out.size
      clear CZ TZ
      go_wp2_with fail
      simp only [Mix.OnlyN]
      have HUY := Lib.hid ((Upd.refl [r] Wz).setCell (show r ∈ [r] by simp) (p := ⟨r, 2, none⟩) (.slice (some ⟨gz, 0, none⟩) (L.length + 1) cz))
      generalize Wz.setCell ⟨r, 2, none⟩ (.slice (some ⟨gz, 0, none⟩) (L.length + 1) cz) = Wy at CY HUY ⊢
      have y1 := CY.get (i := 1) rfl
      have g1 := CY.free (i := 1) rfl
      have CX := Lib.hid (CY.set 1 (.int .i64 (next + 1)))
      clear CY z2 f2 c2
      go_upto_region 5 with fail
      have HUX := Lib.hid (HUY.out.setCell (show r ∈ [r] by simp) (p := ⟨r, 1, none⟩) (.int .i64 (next + 1)))
      generalize Wy.setCell ⟨r, 1, none⟩ (.int .i64 (next + 1)) = Wx at CX HUX ⊢
      clear y1 g1
      go_wp2_with fail
      go_ret
      have hnr : r ∉ ([] : List Nat) := by simp
      have hUall : Upd [r] w Wx := (Upd.ofBelow [r] HB2.out).trans ((Upd.ofBelow [r] HBZ.out).trans HUX.out)
      have hsx := HUX.out.size
      have hPx : UpdP (fun k => T k ∨ k = r) Wz Wx := UpdP.of HUX.out (fun k hk => by simp at hk; exact .inl (.inr hk))
      refine ⟨by rw [eE.out]; rfl, hUall, ?_⟩
      rw [eN.out, eL.out]
      refine ⟨_, _, CX.out, HTr.out, by omega, ?_, ?_⟩
      · refine (Owns.readsN HOZ.out (fun k hk hk2 h9 => ?_)).updP hPx (fun k hk => hk)
        rcases h9 with h9 | h9
        · have := HTL.out k h9; omega
        · omega
      · exact (HVE2.out.updP (UpdP.ofB (P := fun _ => False) HBZ.out) (fun k hk => hk.elim)).updP hPx (fun k hk => hk)
  · go_wp2_with (refine wl_build_rec opOk rfl _ rfl o rfl ?_; have TT1 := Lib.hid TT0.out.step4; generalize X0.alloc (.cells (opR.val o).cells opR.ty) = X1 at TT1 ⊢)
    refine Mix.onward_in (W' := X1) TT1.out.below ?_
    refine Mix.tree_op ?_
    simp only [Mix.pickL, List.getElem?_cons_zero, List.getElem?_cons_succ]
    refine wpQuiet_nil ?_
    go_wp2_with (refine wl_build_none_rec opOk rfl rfl ?_)
    have TT2 := Lib.hid TT1.out.step0
    refine Mix.onward_in (W' := X1.alloc (.cells #[] opR.ty)) TT2.out.below ?_
    generalize X1.alloc (.cells #[] opR.ty) = X2 at TT2 ⊢
    refine Mix.tree_op ?_
    simp only [Mix.pickL, List.getElem?_cons_zero, List.getElem?_cons_succ]
    refine wpQuiet_nil ?_
    go_wp2_with (refine wl_append_all opOk rfl _ _ rfl rfl W2.heap.size _ _ [] L rfl rfl (TT2.out.p0 rfl rfl) (HVR.out.below TT2.out.below) (by simp; omega) TT2.out.below.size ?_; intro ua X3 hOa hga hba)
    have TT3 := Lib.hid (TT2.out.step2 hOa hga)
    refine Mix.onward_in (W' := X3) TT3.out.below ?_
    clear hOa hga hba
    refine Mix.tree_op ?_
    simp only [Mix.pickL, List.getElem?_cons_zero, List.getElem?_cons_succ]
    refine wpQuiet_nil ?_
    obtain ⟨cx, hcx, hx1, hx2, hx3, -⟩ := TT3.out.p4 rfl rfl
    cases hcx
    go_wp2_with (refine wl_append_rec opOk rfl _ _ rfl W2.heap.size _ L rfl (TT3.out.p2 rfl rfl) _ 0 1 o rfl hx3 (by omega) TT3.out.below.size ?_; intro gz cz Wz hOz hgz haz)
    have TZ := Lib.hid (TT3.out.step5 hOz hgz)
    refine Mix.onward_in (W' := Wz) TZ.out.below ?_
    clear hOz hgz haz hx1 hx2 hx3
    refine Mix.tree_fin ?_
    simp only [Mix.pickL]
    refine wpQuiet_nil ?_
    (try simp only [Act.put])
    have CZ := HC2.out.below TZ.out.below
    have z2 := CZ.get (i := 2) rfl
    have f2 := CZ.free (i := 2) rfl
    have CY := CZ.set 2 (.slice (some ⟨gz, 0, none⟩) (L.length + 1) cz)
    have HBZ := Lib.hid TZ.out.below
    have HOZ := Lib.hid (TZ.out.p5 rfl)
    have hsz := HBZ.out.size
    clear CZ TZ
    go_wp2_with fail
    simp only [Mix.OnlyN]
    have HUY := Lib.hid ((Upd.refl [r] Wz).setCell (show r ∈ [r] by simp) (p := ⟨r, 2, none⟩) (.slice (some ⟨gz, 0, none⟩) (L.length + 1) cz))
    generalize Wz.setCell ⟨r, 2, none⟩ (.slice (some ⟨gz, 0, none⟩) (L.length + 1) cz) = Wy at CY HUY ⊢
    have y1 := CY.get (i := 1) rfl
    have g1 := CY.free (i := 1) rfl
    have CX := Lib.hid (CY.set 1 (.int .i64 (next + 1)))
    clear CY z2 f2 c2
    go_upto_region 5 with fail
    have HUX := Lib.hid (HUY.out.setCell (show r ∈ [r] by simp) (p := ⟨r, 1, none⟩) (.int .i64 (next + 1)))
    generalize Wy.setCell ⟨r, 1, none⟩ (.int .i64 (next + 1)) = Wx at CX HUX ⊢
    clear y1 g1
    go_wp2_with fail
    go_ret
    have hnr : r ∉ ([] : List Nat) := by simp
    have hUall : Upd [r] w Wx := (Upd.ofBelow [r] HB2.out).trans ((Upd.ofBelow [r] HBZ.out).trans HUX.out)
    have hsx := HUX.out.size
    have hPx : UpdP (fun k => T k ∨ k = r) Wz Wx := UpdP.of HUX.out (fun k hk => by simp at hk; exact .inl (.inr hk))
    refine ⟨by rw [eE.out]; rfl, hUall, ?_⟩
    rw [eN.out, eL.out]
    refine ⟨_, _, CX.out, HTr.out, by omega, ?_, ?_⟩
    · refine (Owns.readsN HOZ.out (fun k hk hk2 h9 => ?_)).updP hPx (fun k hk => hk)
      rcases h9 with h9 | h9
      · have := HTL.out k h9; omega
      · omega
    · exact (HVE2.out.updP (UpdP.ofB (P := fun _ => False) HBZ.out) (fun k hk => hk.elim)).updP hPx (fun k hk => hk)
theorem radd_any (T : Nat → Prop) (w : World) (r : Nat) (keep next : Int) (L D : List OpV) (h : RT T w r keep next L D) (o : OpV) (hn : 0 ≤ next ∧ next ≤ 1000000) (hL : L.length ≤ 900) (hTlt : ∀ k, T k → k < w.heap.size) :
    Calls Try.prog 19 #[.pointer (some ⟨r, 0, none⟩), .agg o.cells.toArray] w (RAddP T w r keep next L D o) := by
  cases hb : addBad next o with
  | true => exact radd_bad T w r keep next L D h o hb
  | false => exact radd_ok T w r keep next L D h o hb hn hL hTlt
end Go.Proofs.Ytddmajgadaooaaa
