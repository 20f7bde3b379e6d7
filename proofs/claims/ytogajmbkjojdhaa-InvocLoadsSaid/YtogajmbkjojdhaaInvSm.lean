/- Merged of InvAt InvSame. -/
import Derived.Test.YtogajmbkjojdhaaInvDoes

/-! The invocation at a place; are invocations the document's? -/
set_option linter.unusedVariables false
set_option linter.unusedSimpArgs false
set_option maxRecDepth 100000
namespace Go.Proofs.Ytogajmbkjojdhaa
open Go.RowKit

/-- What lies at a place. -/
def AtI (L : List Iv) (i : Int) (x : Iv) : Prop := (i < 0 ∧ x = zeroIv) ∨ ∃ k : Nat, i = k ∧ L[k]? = some x
theorem at_ix (f : Iv → Bool) (L : List Iv) : AtI L (ixB f L) ((L.find? f).getD zeroIv) := by
  rcases ixB_cases f L with ⟨h1, h2⟩ | ⟨k, x, h1, h2, h3⟩
  · exact .inl ⟨by rw [h1]; decide, by rw [h2]; rfl⟩
  · exact .inr ⟨k, h1, by rw [h3]; exact h2⟩
theorem some_ix (f : Iv → Bool) (L : List Iv) : (L.find? f).isSome = decide (0 ≤ ixB f L) := by
  rcases ixB_cases f L with ⟨h1, h2⟩ | ⟨k, x, h1, h2, h3⟩
  · rw [h1, h2]; rfl
  · rw [h1, h3]
    have : decide ((0 : Int) ≤ (k : Int)) = true := by simp
    rw [this]
    rfl
set_option maxHeartbeats 4000000 in
theorem at31_any (w : World) (c : Cfg) (last : Int) (v : Value) (L : List Iv) (hv : Reads ivR w v L) (i : Int) (x : Iv) (h : AtI L i x) :
    Calls Try.prog 42 #[.agg (refCells c last v).toArray, .int .i64 i] w fun e w' => e = .returned (ivR.val x) ∧ Below w.heap.size w w' := by
  obtain ⟨av, capv, rfl⟩ := hv.form
  have hA := Cel.new w 53 (refCells c last (.slice av L.length capv))
  have hb1 : Below w.heap.size w (w.alloc (.cells (refCells c last (.slice av L.length capv)).toArray 53)) := (Below.refl _ _).alloc (Nat.le_refl _) _
  have hs1 : (w.alloc (.cells (refCells c last (.slice av L.length capv)).toArray 53)).heap.size = w.heap.size + 1 := by simp
  have hn2 := heap_alloc_new (w.alloc (.cells (refCells c last (.slice av L.length capv)).toArray 53)) (.cells (ivR.cells zeroIv).toArray 32)
  have hb2 : Below (w.alloc (.cells (refCells c last (.slice av L.length capv)).toArray 53)).heap.size (w.alloc (.cells (refCells c last (.slice av L.length capv)).toArray 53)) ((w.alloc (.cells (refCells c last (.slice av L.length capv)).toArray 53)).alloc (.cells (ivR.cells zeroIv).toArray 32)) := (Below.refl _ _).alloc (Nat.le_refl _) _
  obtain ⟨W2, hW2⟩ : ∃ W2, W2 = (w.alloc (.cells (refCells c last (.slice av L.length capv)).toArray 53)).alloc (.cells (ivR.cells zeroIv).toArray 32) := ⟨_, rfl⟩
  rw [hs1] at hn2 hb2
  rw [← hW2] at hn2 hb2
  have hb12 : Below w.heap.size w W2 := bthen' hb1 (by rw [hs1]; exact hb2)
  have c20 : W2.cell? ⟨w.heap.size, 20, none⟩ = some (.slice av L.length capv) := below_cell (by rw [hs1]; exact hb2) (hA.get (i := 20) rfl)
  have HV := Lib.hid (hv.below hb12)
  have HB := Lib.hid hb12
  have HN := Lib.hid hn2
  clear hv hA hb1 hs1 hn2 hb2 hb12
  rcases h with ⟨h1, rfl⟩ | ⟨k, rfl, hx⟩
  · have q1 : decide (i < 0) = true := by simp; omega
    clear h1 c20
    go_enter Try.func42, Try.ntmps42
    go_upto_region 1 with fail
    show Code.wp _ _ _ _ ((w.alloc (.cells (refCells c last (.slice av L.length capv)).toArray 53)).alloc (.cells (ivR.cells zeroIv).toArray 32))
    rw [← hW2]
    clear hW2
    go_wp2_with (first
      | (refine wl_built rfl 32 _ rfl [] (by simp [Act.eval, Act.put]) _ builtZ ?_)
      | (refine wpList_store_row rfl 32 _ _ rfl (w.heap.size + 1) (ivR.cells zeroIv).toArray rfl rfl 32 (ivR.cells zeroIv).toArray HN.out (ivRow zeroIv) rfl (ivOk.one' zeroIv) ?_))
    exact bodyPost_ret (results_cell_mid rfl _ _ (w.heap.size + 1) (ivR.cells zeroIv) _ rfl (row_reads zeroIv (setRow_heap _ HN.out)) Try.underlying32 rfl (ivRowL zeroIv)) rfl ⟨rfl, below_row HB.out (Nat.le_succ _) _⟩
  · obtain ⟨b, off, rfl, hr⟩ := HV.out.at hx
    have hkl : k < L.length := (List.getElem?_eq_some_iff.1 hx).1
    have q1 : decide ((k : Int) < 0) = false := by simp
    have HR := Lib.hid hr
    clear hx hr
    go_enter Try.func42, Try.ntmps42
    go_upto_region 1 with fail
    show Code.wp _ _ _ _ ((w.alloc (.cells (refCells c last (.slice (some ⟨b, off, none⟩) L.length capv)).toArray 53)).alloc (.cells (ivR.cells zeroIv).toArray 32))
    rw [← hW2]
    clear hW2
    go_wp2_with (first
      | (refine wpList_load_mid rfl 32 _ rfl b (off + k * ivR.n) rfl (ivR.cells x) _ HR.out Try.underlying32 rfl (ivOk.row x) ?_)
      | (refine wpList_store_row rfl 32 _ _ rfl (w.heap.size + 1) (ivR.cells x).toArray rfl rfl 32 (ivR.cells zeroIv).toArray HN.out (ivRow x) rfl (ivOk.one' x) ?_))
    exact bodyPost_ret (results_cell_mid rfl _ _ (w.heap.size + 1) (ivR.cells x) _ rfl (row_reads x (setRow_heap _ HN.out)) Try.underlying32 rfl (ivRowL x)) rfl ⟨rfl, below_row HB.out (Nat.le_succ _) _⟩
end Go.Proofs.Ytogajmbkjojdhaa

/-! Are invocations the document's? (printed by geninvsame.py) -/
set_option linter.unusedVariables false
set_option linter.unusedSimpArgs false
set_option maxRecDepth 100000
namespace Go.Proofs.Ytogajmbkjojdhaa
open Go.RowKit

set_option maxHeartbeats 16000000 in
theorem same31_any {w wr : World} {p nm lm r : Nat} {c : Cfg} {last : Int} {L : List Iv} (h : HfI w wr p nm lm r c last L last L) (v : Value) (hv : Reads ivR wr v L) (x : Iv) (hL : L.length ≤ 1000) :
    Calls Try.prog 22 #[.pointer (some ⟨p, 0, none⟩), .agg (refCells c last v).toArray, .agg (ivR.cells x).toArray] wr fun e w' => e = .returned (.bool true) ∧ Below wr.heap.size wr w' := by
  obtain ⟨av, capv, rfl⟩ := hv.form
  have hA := Cel.new wr 53 (refCells c last (.slice av L.length capv))
  have hb1 : Below wr.heap.size wr (wr.alloc (.cells (refCells c last (.slice av L.length capv)).toArray 53)) := (Below.refl _ _).alloc (Nat.le_refl _) _
  have hs1 : (wr.alloc (.cells (refCells c last (.slice av L.length capv)).toArray 53)).heap.size = wr.heap.size + 1 := by simp
  obtain ⟨W1, hW1⟩ : ∃ W1, W1 = wr.alloc (.cells (refCells c last (.slice av L.length capv)).toArray 53) := ⟨_, rfl⟩
  rw [← hW1] at hA hb1 hs1
  have hA5 := Cel.new W1 32 (ivR.cells x)
  have hb2 : Below W1.heap.size W1 (W1.alloc (.cells (ivR.cells x).toArray 32)) := (Below.refl _ _).alloc (Nat.le_refl _) _
  obtain ⟨W2, hW2⟩ : ∃ W2, W2 = W1.alloc (.cells (ivR.cells x).toArray 32) := ⟨_, rfl⟩
  rw [← hW2] at hA5 hb2
  rw [hs1] at hA5
  have HB2 := Lib.hid (bthen' hb1 hb2)
  have HA4 := Lib.hid (hA.below hb2)
  have HA5 := Lib.hid hA5
  have HH2 := Lib.hid (h.below' (bthen' hb1 hb2))
  have HV := Lib.hid hv
  have hW12 := Lib.hid (show W2 = (wr.alloc (.cells (refCells c last (.slice av L.length capv)).toArray 53)).alloc (.cells (ivR.cells x).toArray 32) from by rw [hW2, hW1])
  have c1 := hA5.get (i := 1) rfl
  have c2 := hA5.get (i := 2) rfl
  have KF := Lib.hid (find_any HH2.out.s.mem HH2.out.s.ok x.tn x.nm)
  unfold GotI at KF
  obtain ⟨z1, hz1⟩ : ∃ z, z = (fNm L x.tn x.nm).getD zeroIv := ⟨_, rfl⟩
  obtain ⟨o1, ho1⟩ : ∃ o, o = (fNm L x.tn x.nm).isSome := ⟨_, rfl⟩
  rw [← hz1, ← ho1] at KF
  obtain ⟨i1, hi1⟩ : ∃ i, i = ixB (isNm x.tn x.nm) L := ⟨_, rfl⟩
  have hp1 : o1 = decide (0 ≤ i1) := by rw [ho1, hi1]; exact some_ix _ L
  have HP1 := Lib.hid hp1
  have HT1 := Lib.hid (show AtI L i1 z1 from by rw [hi1, hz1]; exact at_ix _ L)
  obtain ⟨z2, hz2⟩ : ∃ z, z = (fNo L x.no).getD zeroIv := ⟨_, rfl⟩
  obtain ⟨o2, ho2⟩ : ∃ o, o = (fNo L x.no).isSome := ⟨_, rfl⟩
  obtain ⟨i2, hi2⟩ : ∃ i, i = ixB (isNo x.no) L := ⟨_, rfl⟩
  have hp2 : o2 = decide (0 ≤ i2) := by rw [ho2, hi2]; exact some_ix _ L
  have HP2 := Lib.hid hp2
  have HT2 := Lib.hid (show AtI L i2 z2 from by rw [hi2, hz2]; exact at_ix _ L)
  have HI1 := Lib.hid hi1
  have HI2 := Lib.hid hi2
  have HZ2 := Lib.hid hz2
  have HO2 := Lib.hid ho2
  clear hA hb1 hs1 hA5 hb2 hW1 hW2 h hv hz1 ho1 hi1 hp1 hz2 ho2 hi2 hp2
  go_enter Try.func22, Try.ntmps22
  go_upto_region 1 with fail
  show Code.wp _ _ _ _ ((wr.alloc (.cells (refCells c last (.slice av L.length capv)).toArray 53)).alloc (.cells (ivR.cells x).toArray 32))
  rw [← hW12.out]
  clear hW12
  go_upto_region 2 with (first
    | (go_at_call 38; refine KF.out.mono ?_; rintro e W3 ⟨rfl, hb3⟩)
    | (refine wpList_store_mid rfl 32 _ _ rfl W3.heap.size 0 (ivR.cells z1).toArray rfl rfl (freshR_there ivOk W3 z1) (ivOk.row' z1) (ivOk.one' z1) ?_; show wpList _ _ _ _ _ (freshR ivR W3 z1); have hx4 := freshR_range ivOk W3 z1; have hb4 := freshR_below (R := ivR) W3 z1; generalize freshR ivR W3 z1 = W4 at hx4 hb4 ⊢))
  obtain ⟨b7, hb7⟩ : ∃ b7, b7 = W3.heap.size := ⟨_, rfl⟩
  rw [← hb7] at hx4 ⊢
  have hb24 := bthen' hb3 hb4
  have HX4 := Lib.hid hx4
  have HB4 := Lib.hid (bthen' HB2.out hb24)
  have HA44 := Lib.hid (HA4.out.below hb24)
  have HA54 := Lib.hid (HA5.out.below hb24)
  have HH4 := Lib.hid (HH2.out.below' hb24)
  clear hb3 hb4 hb24 hx4 hb7 c1 c2 KF HB2 HA4 HA5 HH2
  have c0 := HA54.out.get (i := 0) rfl
  have KG := Lib.hid (get_any HH4.out.s.mem x.no)
  unfold GotI at KG
  rw [← HZ2.out, ← HO2.out] at KG
  go_upto_region 3 with (first
    | (go_at_call 11; refine KG.out.mono ?_; rintro e W5 ⟨rfl, hb5⟩)
    | (refine wpList_store_mid rfl 32 _ _ rfl W5.heap.size 0 (ivR.cells z2).toArray rfl rfl (freshR_there ivOk W5 z2) (ivOk.row' z2) (ivOk.one' z2) ?_; show wpList _ _ _ _ _ (freshR ivR W5 z2); have hx6 := freshR_range ivOk W5 z2; have hb6 := freshR_below (R := ivR) W5 z2; generalize freshR ivR W5 z2 = W6 at hx6 hb6 ⊢))
  obtain ⟨b9, hb9⟩ : ∃ b9, b9 = W5.heap.size := ⟨_, rfl⟩
  rw [← hb9] at hx6 ⊢
  have hb46 := bthen' hb5 hb6
  have HX9 := Lib.hid hx6
  have HX7 := Lib.hid (below_range hb46 HX4.out)
  have HB6 := Lib.hid (bthen' HB4.out hb46)
  have HA6 := Lib.hid (HA44.out.below hb46)
  have HA56 := Lib.hid (HA54.out.below hb46)
  have HH6 := Lib.hid (HH4.out.below' hb46)
  clear hb5 hb6 hb46 hx6 hb9 c0 KG HB4 HA44 HA54 HH4 HX4 HZ2 HO2
  have y0 := HA56.out.get (i := 0) rfl
  have y1 := HA56.out.get (i := 1) rfl
  have y2 := HA56.out.get (i := 2) rfl
  have d0 := fun (z : Later W6) => z.cell y0
  have d1 := fun (z : Later W6) => z.cell y1
  have d2 := fun (z : Later W6) => z.cell y2
  have RC := Lib.hid (fun (w' : World) (h : ∃ z : Later W6, w' = z.w) => (show w'.rangeAt wr.heap.size 0 (refCells c last (.slice av L.length capv)) from by obtain ⟨zz, rfl⟩ := h; exact below_range zz.h HA6.out.range))
  have K1 := Lib.hid (fun (W : World) (hb : Below W6.heap.size W6 W) => rfind_any W c last _ L (HV.out.below (bthen' HB6.out hb)) (by omega) x.tn x.nm)
  have K2 := Lib.hid (fun (W : World) (hb : Below W6.heap.size W6 W) => rno_any W c last _ L (HV.out.below (bthen' HB6.out hb)) (by omega) x.no)
  rw [← HI1.out] at K1
  rw [← HI2.out] at K2
  clear y0 y1 y2 HI1 HI2
  (try simp only [Act.put])
  refine wp_region_later (by kernel_rfl) (by kernel_rfl) (Below.refl _ _) ?_
  repeat (first
    | go_big_quiet_skip
    | (go_big_quiet_want; first
      | (refine quiet_load_mid 53 _ rfl wr.heap.size 0 rfl (refCells c last (.slice av L.length capv)) _ RC.out Try.underlying53 rfl (vRow c last _) ?_; simp only [Act.put, List.setIfInBounds_toArray, List.set_cons_succ, List.set_cons_zero]; go_big_quiet_on)
      | (go_big_quiet_op; first | go_big_quiet_on | go_big_quiet_call ((first | (go_at_call 39; exact Calls.later (K1.out _ (Later.h _))) | (go_at_call 40; exact Calls.later (K2.out _ (Later.h _))))))))
  refine wpQuiet_nil ?_
  rintro ⟨W7, hb7⟩
  dsimp only
  clear d0 d1 d2 RC K1 K2
  have HX97 := Lib.hid (below_range hb7 HX9.out)
  have HX77 := Lib.hid (below_range hb7 HX7.out)
  have HB7 := Lib.hid (bthen' HB6.out hb7)
  have HA7 := Lib.hid (HA6.out.below hb7)
  have HA57 := Lib.hid (HA56.out.below hb7)
  have HH7 := Lib.hid (HH6.out.below' hb7)
  clear hb7 HX9 HX7 HB6 HA6 HA56 HH6
  have y1 := HA57.out.get (i := 1) rfl
  have v19 := HA7.out.get (i := 19) rfl
  have v20 := HA7.out.get (i := 20) rfl
  have HV7 := Lib.hid (HV.out.below HB7.out)
  have KAll := Lib.hid (fun (W : World) (hb : Below W7.heap.size W7 W) => all_any (HH7.out.s.mem.below hb) HH7.out.s.ok (by omega))
  have KSame := Lib.hid (fun (W : World) (hb : Below W7.heap.size W7 W) (u : Value) (hu : Reads ivR W u L) => show Calls Try.prog 25 #[u, .slice av L.length capv] W (fun e w' => e = .returned (.bool true) ∧ Below W.heap.size W w') from (rsame_any W u _ L L hu (HV7.out.below hb) (by omega)).mono (by rintro e w' ⟨rfl, hb⟩; exact ⟨by simp, hb⟩))
  have KLast := Lib.hid (fun (W : World) (hb : Below W7.heap.size W7 W) => last_any (HH7.out.s.mem.below hb))
  have KLoad := Lib.hid (fun (W : World) (hb : Below W7.heap.size W7 W) => load_any (HH7.out.s.mem.below hb) HH7.out.s.ok x.tn (by omega))
  have KRLoad := Lib.hid (fun (W : World) (hb : Below W7.heap.size W7 W) => rload_any W c last _ L (HV7.out.below hb) (by omega) x.tn (LdI.bound HH7.out.s.ok (by omega) x.tn))
  have KA1 := Lib.hid (fun (W : World) (hb : Below W7.heap.size W7 W) => show Calls Try.prog 42 #[.agg (refCells c last (.slice av L.length capv)).toArray, .int .i64 i1] W (fun e w' => e = .returned (.agg (ivR.cells z1).toArray) ∧ Below W.heap.size W w') from at31_any W c last _ L (HV7.out.below hb) i1 z1 HT1.out)
  have KA2 := Lib.hid (fun (W : World) (hb : Below W7.heap.size W7 W) => show Calls Try.prog 42 #[.agg (refCells c last (.slice av L.length capv)).toArray, .int .i64 i2] W (fun e w' => e = .returned (.agg (ivR.cells z2).toArray) ∧ Below W.heap.size W w') from at31_any W c last _ L (HV7.out.below hb) i2 z2 HT2.out)
  obtain ⟨ld, hld⟩ : ∃ l, l = loadT L x.tn := ⟨_, rfl⟩
  rw [← hld] at KLoad KRLoad
  have RC4 := Lib.hid (fun (w' : World) (h : ∃ z : Mix.InS (fun z => Below W7.heap.size W7 z), w' = z.w) => (show w'.rangeAt wr.heap.size 0 (refCells c last (.slice av L.length capv)) from by obtain ⟨zz, rfl⟩ := h; exact below_range zz.h HA7.out.range))
  have RC7 := Lib.hid (fun (w' : World) (h : ∃ z : Mix.InS (fun z => Below W7.heap.size W7 z), w' = z.w) => (show w'.rangeAt b7 0 (ivR.cells z1) from by obtain ⟨zz, rfl⟩ := h; exact below_range zz.h HX77.out))
  have RC9 := Lib.hid (fun (w' : World) (h : ∃ z : Mix.InS (fun z => Below W7.heap.size W7 z), w' = z.w) => (show w'.rangeAt b9 0 (ivR.cells z2) from by obtain ⟨zz, rfl⟩ := h; exact below_range zz.h HX97.out))
  have hne : Nonempty (Mix.InS (fun z => Below W7.heap.size W7 z)) := ⟨⟨W7, Below.refl _ _⟩⟩
  have d1 := fun (z : Mix.InS (fun z => Below W7.heap.size W7 z)) => below_cell z.h y1
  have d19 := fun (z : Mix.InS (fun z => Below W7.heap.size W7 z)) => below_cell z.h v19
  have d20 := fun (z : Mix.InS (fun z => Below W7.heap.size W7 z)) => below_cell z.h v20
  have q1 : decide (i1 ≥ 0) = o1 := HP1.out.symm
  have q1' : decide (0 ≤ i1) = o1 := HP1.out.symm
  have q2 : decide (i2 ≥ 0) = o2 := HP2.out.symm
  have q2' : decide (0 ≤ i2) = o2 := HP2.out.symm
  have q3 : (o1 == o1) = true := by simp
  have q4 : (o2 == o2) = true := by simp
  have hsame1 : ∀ w : World, (Op.equalIn (9998 + 2) 32 (.agg (ivR.cells z1).toArray) (.agg (ivR.cells z1).toArray)).run Try.prog w = .ok (decide (z1 = z1)) w := fun w => iv_eq 9998 z1 z1 w
  have hsame2 : ∀ w : World, (Op.equalIn (9998 + 2) 32 (.agg (ivR.cells z2).toArray) (.agg (ivR.cells z2).toArray)).run Try.prog w = .ok (decide (z2 = z2)) w := fun w => iv_eq 9998 z2 z2 w
  have hguard := ivGuard
  clear y1 v19 v20 hld HA57 HA7 HX77 HX97 HV HP1 HP2 HT1 HT2
  go_upto_region 4 with fail
  (try simp only [Act.put])
  have hbd : Below W7.heap.size W7 W7.drew := (Below.refl _ _).drew
  have HBD := Lib.hid hbd
  refine Mix.wp_region_mix [([0, 2, 3], 1), ([], 4), ([5, 6, 8, 9], 7), ([10, 11, 12, 13, 14, 15, 17, 18, 19], 16), ([], 20), ([21, 22, 23, 24, 25, 26], 27), ([28, 29, 30, 31, 32, 33, 34, 35, 36, 37, 38, 39], 40)] [41, 42, 43, 44, 45, 46, 47, 48, 49] (fun w' => ∃ x : Mix.InS (fun z => Below W7.heap.size W7 z), w' = x.w) (by kernel_rfl) (by kernel_rfl) (Mix.inS_mk HBD.out) ?_
  generalize W7.drew = X0 at HBD ⊢
  clear hbd
  refine Mix.stages_cons ?_
  simp only [Mix.pickL, List.getElem?_cons_zero, List.getElem?_cons_succ]
  repeat (first
    | go_big_quiet_skip
    | (go_big_quiet_want; first
      | (refine quiet_load_mid 53 _ rfl wr.heap.size 0 rfl (refCells c last (.slice av L.length capv)) _ RC4.out Try.underlying53 rfl (vRow c last _) ?_; simp only [Act.put, List.setIfInBounds_toArray, List.set_cons_succ, List.set_cons_zero]; go_big_quiet_on)
      | (refine quiet_load_mid 32 _ rfl b7 0 rfl (ivR.cells z1) _ RC7.out Try.underlying32 rfl (ivOk.row z1) ?_; simp only [Act.put, List.setIfInBounds_toArray, List.set_cons_succ, List.set_cons_zero]; go_big_quiet_on)
      | (refine quiet_load_mid 32 _ rfl b9 0 rfl (ivR.cells z2) _ RC9.out Try.underlying32 rfl (ivOk.row z2) ?_; simp only [Act.put, List.setIfInBounds_toArray, List.set_cons_succ, List.set_cons_zero]; go_big_quiet_on)
      | (go_big_quiet_op; go_big_quiet_on)))
  refine wpQuiet_nil ?_
  go_wp2_with (go_at_call 9; refine (KAll.out _ HBD.out).mono ?_; rintro e W8 ⟨u8, rfl, hb8, hO8⟩; obtain ⟨a8, c8, rfl⟩ := hO8.form; have hR8 := hO8.lts ivOk)
  have HB8 := Lib.hid (bthen' HBD.out hb8)
  have HR8 := Lib.hid hR8
  clear hb8 hR8 hO8 HBD KAll
  refine Mix.onward_in HB8.out ?_
  refine Mix.stages_cons ?_
  simp only [Mix.pickL, List.getElem?_cons_zero, List.getElem?_cons_succ]
  refine wpQuiet_nil ?_
  go_wp2_with (go_at_call 25; refine (KSame.out _ HB8.out _ HR8.out).mono ?_; rintro e W9 ⟨rfl, hb9⟩)
  have HB9 := Lib.hid (bthen' HB8.out hb9)
  clear hb9 HB8 HR8 KSame
  refine Mix.onward_in HB9.out ?_
  refine Mix.stages_cons ?_
  simp only [Mix.pickL, List.getElem?_cons_zero, List.getElem?_cons_succ]
  repeat (first
    | go_big_quiet_skip
    | (go_big_quiet_want; first
      | (refine quiet_load_mid 53 _ rfl wr.heap.size 0 rfl (refCells c last (.slice av L.length capv)) _ RC4.out Try.underlying53 rfl (vRow c last _) ?_; simp only [Act.put, List.setIfInBounds_toArray, List.set_cons_succ, List.set_cons_zero]; go_big_quiet_on)
      | (refine quiet_load_mid 32 _ rfl b7 0 rfl (ivR.cells z1) _ RC7.out Try.underlying32 rfl (ivOk.row z1) ?_; simp only [Act.put, List.setIfInBounds_toArray, List.set_cons_succ, List.set_cons_zero]; go_big_quiet_on)
      | (refine quiet_load_mid 32 _ rfl b9 0 rfl (ivR.cells z2) _ RC9.out Try.underlying32 rfl (ivOk.row z2) ?_; simp only [Act.put, List.setIfInBounds_toArray, List.set_cons_succ, List.set_cons_zero]; go_big_quiet_on)
      | (go_big_quiet_op; go_big_quiet_on)))
  refine wpQuiet_nil ?_
  go_wp2_with (go_at_call 20; refine (KLast.out _ HB9.out).mono ?_; rintro e w' ⟨rfl, rfl⟩)
  clear KLast
  refine Mix.onward_in HB9.out ?_
  refine Mix.stages_cons ?_
  simp only [Mix.pickL, List.getElem?_cons_zero, List.getElem?_cons_succ]
  repeat (first
    | go_big_quiet_skip
    | (go_big_quiet_want; first
      | (refine quiet_load_mid 53 _ rfl wr.heap.size 0 rfl (refCells c last (.slice av L.length capv)) _ RC4.out Try.underlying53 rfl (vRow c last _) ?_; simp only [Act.put, List.setIfInBounds_toArray, List.set_cons_succ, List.set_cons_zero]; go_big_quiet_on)
      | (refine quiet_load_mid 32 _ rfl b7 0 rfl (ivR.cells z1) _ RC7.out Try.underlying32 rfl (ivOk.row z1) ?_; simp only [Act.put, List.setIfInBounds_toArray, List.set_cons_succ, List.set_cons_zero]; go_big_quiet_on)
      | (refine quiet_load_mid 32 _ rfl b9 0 rfl (ivR.cells z2) _ RC9.out Try.underlying32 rfl (ivOk.row z2) ?_; simp only [Act.put, List.setIfInBounds_toArray, List.set_cons_succ, List.set_cons_zero]; go_big_quiet_on)
      | (go_big_quiet_op; go_big_quiet_on)))
  refine wpQuiet_nil ?_
  go_wp2_with (go_at_call 15; refine (KLoad.out _ HB9.out).mono ?_; rintro e W10 ⟨rfl, hb10⟩)
  have HB10 := Lib.hid (bthen' HB9.out hb10)
  clear hb10 HB9 KLoad
  refine Mix.onward_in HB10.out ?_
  refine Mix.stages_cons ?_
  simp only [Mix.pickL, List.getElem?_cons_zero, List.getElem?_cons_succ]
  refine wpQuiet_nil ?_
  go_wp2_with (go_at_call 41; refine (KRLoad.out _ HB10.out).mono ?_; rintro e W11 ⟨rfl, hb11⟩)
  have HB11 := Lib.hid (bthen' HB10.out hb11)
  clear hb11 HB10 KRLoad
  refine Mix.onward_in HB11.out ?_
  refine Mix.stages_cons ?_
  simp only [Mix.pickL, List.getElem?_cons_zero, List.getElem?_cons_succ]
  repeat (first
    | go_big_quiet_skip
    | (go_big_quiet_want; first
      | (refine quiet_load_mid 53 _ rfl wr.heap.size 0 rfl (refCells c last (.slice av L.length capv)) _ RC4.out Try.underlying53 rfl (vRow c last _) ?_; simp only [Act.put, List.setIfInBounds_toArray, List.set_cons_succ, List.set_cons_zero]; go_big_quiet_on)
      | (refine quiet_load_mid 32 _ rfl b7 0 rfl (ivR.cells z1) _ RC7.out Try.underlying32 rfl (ivOk.row z1) ?_; simp only [Act.put, List.setIfInBounds_toArray, List.set_cons_succ, List.set_cons_zero]; go_big_quiet_on)
      | (refine quiet_load_mid 32 _ rfl b9 0 rfl (ivR.cells z2) _ RC9.out Try.underlying32 rfl (ivOk.row z2) ?_; simp only [Act.put, List.setIfInBounds_toArray, List.set_cons_succ, List.set_cons_zero]; go_big_quiet_on)
      | (go_big_quiet_op; go_big_quiet_on)))
  refine wpQuiet_nil ?_
  go_wp2_with (go_at_call 42; refine (KA1.out _ HB11.out).mono ?_; rintro e W12 ⟨rfl, hb12⟩)
  have HB12 := Lib.hid (bthen' HB11.out hb12)
  clear hb12 HB11 KA1
  refine Mix.onward_in HB12.out ?_
  refine Mix.stages_cons ?_
  simp only [Mix.pickL, List.getElem?_cons_zero, List.getElem?_cons_succ]
  repeat (first
    | go_big_quiet_skip
    | (go_big_quiet_want; first
      | (refine quiet_load_mid 53 _ rfl wr.heap.size 0 rfl (refCells c last (.slice av L.length capv)) _ RC4.out Try.underlying53 rfl (vRow c last _) ?_; simp only [Act.put, List.setIfInBounds_toArray, List.set_cons_succ, List.set_cons_zero]; go_big_quiet_on)
      | (refine quiet_load_mid 32 _ rfl b7 0 rfl (ivR.cells z1) _ RC7.out Try.underlying32 rfl (ivOk.row z1) ?_; simp only [Act.put, List.setIfInBounds_toArray, List.set_cons_succ, List.set_cons_zero]; go_big_quiet_on)
      | (refine quiet_load_mid 32 _ rfl b9 0 rfl (ivR.cells z2) _ RC9.out Try.underlying32 rfl (ivOk.row z2) ?_; simp only [Act.put, List.setIfInBounds_toArray, List.set_cons_succ, List.set_cons_zero]; go_big_quiet_on)
      | (go_big_quiet_op; go_big_quiet_on)))
  refine wpQuiet_nil ?_
  go_wp2_with (go_at_call 42; refine (KA2.out _ HB12.out).mono ?_; rintro e W13 ⟨rfl, hb13⟩)
  have HB13 := Lib.hid (bthen' HB12.out hb13)
  clear hb13 HB12 KA2
  refine Mix.onward_in HB13.out ?_
  refine Mix.stages_nil ?_
  simp only [Mix.pickL, List.getElem?_cons_zero, List.getElem?_cons_succ]
  repeat (first
    | go_big_quiet_skip
    | (go_big_quiet_want; first
      | (refine quiet_load_mid 53 _ rfl wr.heap.size 0 rfl (refCells c last (.slice av L.length capv)) _ RC4.out Try.underlying53 rfl (vRow c last _) ?_; simp only [Act.put, List.setIfInBounds_toArray, List.set_cons_succ, List.set_cons_zero]; go_big_quiet_on)
      | (refine quiet_load_mid 32 _ rfl b7 0 rfl (ivR.cells z1) _ RC7.out Try.underlying32 rfl (ivOk.row z1) ?_; simp only [Act.put, List.setIfInBounds_toArray, List.set_cons_succ, List.set_cons_zero]; go_big_quiet_on)
      | (refine quiet_load_mid 32 _ rfl b9 0 rfl (ivR.cells z2) _ RC9.out Try.underlying32 rfl (ivOk.row z2) ?_; simp only [Act.put, List.setIfInBounds_toArray, List.set_cons_succ, List.set_cons_zero]; go_big_quiet_on)
      | (go_big_quiet_op; go_big_quiet_on)))
  refine wpQuiet_nil ?_
  clear d1 d19 d20 hsame1 hsame2 hguard RC4 RC7 RC9 hne
  go_wp2_with fail
  go_ret
  exact ⟨by first | rfl | simp, bthen' HB7.out HB13.out⟩
end Go.Proofs.Ytogajmbkjojdhaa

