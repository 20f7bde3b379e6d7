/- Which operations may be a table: the document's answer (printed by genopright.py). -/
import Derived.Test.YtddmajgadaooaaaOpIs
set_option linter.unusedVariables false
set_option linter.unusedSimpArgs false
namespace Go.Proofs.Ytddmajgadaooaaa
open Go.RowKit

structure StepOk (next : Int) (L X : List OpV) (i : Nat) (x : OpV) : Prop where
  lo : 1 ≤ x.id
  hi : x.id < next
  new : got (X.take i) x.id = none
  st : term x.st = decide (L.length ≤ i)
  rise : ∀ y, 0 < i → i < L.length → L[i - 1]? = some y → y.id < x.id
def MayBe (keep next : Int) (L D : List OpV) : Prop := 1 ≤ keep ∧ 1 ≤ next ∧ (D.length : Int) ≤ keep ∧ ∀ i x, (L ++ D)[i]? = some x → StepOk next L (L ++ D) i x
def Tells (P : Prop) (w : World) (e : Ending) (w' : World) : Prop := ∃ b, e = .returned (.bool b) ∧ Below w.heap.size w w' ∧ (b = true ↔ P)
theorem Reads.take {w : World} {a : Option Addr} {n cap : Nat} {X : List OpV} (h : Reads opR w (.slice a n cap) X) {k : Nat} (hk : k ≤ X.length) : Reads opR w (.slice a k cap) (X.take k) := by
  rcases h with ⟨rfl, a', c', h1⟩ | ⟨b, off, c', h1, h2⟩
  · simp only [Value.slice.injEq] at h1
    obtain ⟨rfl, rfl, rfl⟩ := h1
    exact .inl ⟨by simp, a, cap, by simp at hk; rw [hk]⟩
  · simp only [Value.slice.injEq] at h1
    obtain ⟨rfl, rfl, rfl⟩ := h1
    refine .inr ⟨b, off, cap, by rw [List.length_take, Nat.min_eq_left hk], fun i x hx => h2 i x ?_⟩
    rw [List.getElem?_take] at hx
    split at hx
    · exact hx
    · cases hx
theorem op_id_at {w : World} {b o k : Nat} {x : OpV} (h : w.rangeAt b (o + k * opR.n) (opR.cells x)) : w.cell? ⟨b, o + k * 18, none⟩ = some (.int .i64 x.id) := by have := h 0 _ rfl; simpa [opR] using this
theorem op_st_at {w : World} {b o k : Nat} {x : OpV} (h : w.rangeAt b (o + k * opR.n) (opR.cells x)) : w.cell? ⟨b, o + k * 18 + 8, none⟩ = some (.int .i64 x.st) := by have := h 8 _ rfl; simpa [opR] using this

set_option maxRecDepth 100000 in
set_option maxHeartbeats 4000000 in
theorem maybe_any (w : World) (keep next : Int) (vl ve : Value) (L D : List OpV) (hl : Reads opR w vl L) (hd : Reads opR w ve D) (hL : L.length ≤ 1000) (hD : D.length ≤ 1000) :
    Calls Try.prog 24 #[.int .i64 keep, .int .i64 next, vl, ve] w (Tells (MayBe keep next L D) w) := by
  obtain ⟨av, cv, rfl⟩ := hl.form
  obtain ⟨ad, cd, rfl⟩ := hd.form
  have HL := Lib.hid hl
  have HD := Lib.hid hd
  have hlen : (L ++ D).length ≤ 2000 := by simp; omega
  have nope : ∀ (e : Ending) (w' : World), ¬ MayBe keep next L D → e = .returned (.bool false) → Below w.heap.size w w' → Tells (MayBe keep next L D) w e w'   := fun e w' h1 h2 h3 => ⟨false, h2, h3, by simp [h1]⟩
  have NO := Lib.hid nope
  clear hl hd nope
  by_cases h1 : keep < 1
  · have hn := Lib.hid (show ¬ MayBe keep next L D from fun h => by have := h.1; omega)
    go_enter Try.func24, Try.ntmps24
    go_wp2_with fail
    go_ret
    exact NO.out _ _ hn.out rfl (Below.refl _ _)
  by_cases h2 : next < 1
  · have hn := Lib.hid (show ¬ MayBe keep next L D from fun h => by have := h.2.1; omega)
    go_enter Try.func24, Try.ntmps24
    go_wp2_with fail
    go_ret
    exact NO.out _ _ hn.out rfl (Below.refl _ _)
  by_cases h3 : keep < (D.length : Int)
  · have hn := Lib.hid (show ¬ MayBe keep next L D from fun h => by have := h.2.2.1; omega)
    go_enter Try.func24, Try.ntmps24
    go_wp2_with fail
    go_ret
    exact NO.out _ _ hn.out rfl (Below.refl _ _)
  have hH := Lib.hid (show 1 ≤ keep ∧ 1 ≤ next ∧ (D.length : Int) ≤ keep from ⟨by omega, by omega, by omega⟩)
  go_enter Try.func24, Try.ntmps24
  go_upto_block 0 with (first
    | (refine wl_build_none_rec opOk rfl rfl ?_; have hO0 := Owns.made (R := opR) (B := w.heap.size) (Nat.le_refl w.heap.size); have hb0 : Below w.heap.size w (w.alloc (.cells #[] opR.ty)) := (Below.refl _ _).alloc (Nat.le_refl _) _; generalize w.alloc (.cells #[] opR.ty) = W1 at hO0 hb0 ⊢; have hs0 := hb0.size)
    | (refine wl_append_all opOk rfl _ _ rfl rfl w.heap.size _ _ ([] ++ L) D rfl rfl hO1 (HD.out.below hb1) (by simp; omega) hs1 ?_; intro u2 W3 hO2 hg2 hba2)
    | (refine wl_append_all opOk rfl _ _ rfl rfl w.heap.size _ _ [] L rfl rfl hO0 (HL.out.below hb0) (by simp; omega) hs0 ?_; intro u1 W2 hO1 hg1 hba1; have hb1 : Below w.heap.size w W2 := hb0.grown hg1 hs0 (fun k hk => (hO0.lt k hk).1); have hs1 := hb1.size))
  have HB3 := Lib.hid (show Below w.heap.size w W3 from hb1.grown hg2 hs1 (fun k hk => (hO1.lt k hk).1))
  rw [List.nil_append] at hO2
  obtain ⟨ax, cx, hux, hcx⟩ := hO2.capOk
  subst hux
  have HX := Lib.hid (hO2.lts opOk)
  clear hO0 hb0 hs0 hO1 hg1 hba1 hb1 hs1 hO2 hg2 hba2 h1 h2 h3
  obtain ⟨X, hX⟩ : ∃ X, X = L ++ D := ⟨_, rfl⟩
  have hNo := Lib.hid (show ∀ k x, X[k]? = some x → ¬ StepOk next L X k x → ¬ MayBe keep next L D from fun k x hx hn h => by rw [hX] at hx hn; exact hn (h.2.2.2 k x hx))
  have hYes := Lib.hid (show (∀ k x, k < X.length → X[k]? = some x → StepOk next L X k x) → MayBe keep next L D from fun h => ⟨hH.out.1, hH.out.2.1, hH.out.2.2, fun k x hx => by rw [← hX] at hx ⊢; exact h k x (List.getElem?_eq_some_iff.1 hx).1 hx⟩)
  have HXL := Lib.hid (show ∀ k, k < L.length → X[k]? = L[k]? from fun k hk => by rw [hX, List.getElem?_append_left hk])
  have HLX := Lib.hid (show L.length ≤ X.length from by rw [hX]; simp)
  have hXlen : X.length ≤ 2000 := by rw [hX]; exact hlen
  rw [← hX] at HX hcx ⊢
  clear hX hH HD hlen
  go_wp2_with fail
  go_loopw [10] (fun i wr => ∃ k : Nat, k ≤ X.length ∧ i = .int .i64 k ∧ Below W3.heap.size W3 wr ∧ ∀ j x, j < k → X[j]? = some x → StepOk next L X j x) (fun i _ => X.length - (intOf i).toNat)
  case atStart => exact ⟨0, by omega, rfl, Below.refl _ _, by intro j x hj; omega⟩
  case round =>
    obtain ⟨k, hk, rfl, hW, hE⟩ := hrel
    have HE := Lib.hid hE
    have HWR := Lib.hid hW
    clear hE
    by_cases hlt : k < X.length
    · obtain ⟨x, hx⟩ : ∃ x, X[k]? = some x := ⟨_, List.getElem?_eq_getElem hlt⟩
      obtain ⟨b, off, rfl, hr⟩ := (HX.out.below hW).at hx
      have ci := op_id_at hr
      have cs := op_st_at hr
      have hneS : Nonempty (Mix.InS (fun z => Below wr.heap.size wr z)) := ⟨⟨wr, Below.refl _ _⟩⟩
      have d1 := fun (z : Mix.InS (fun z => Below wr.heap.size wr z)) => below_cell z.h ci
      have d2 := fun (z : Mix.InS (fun z => Below wr.heap.size wr z)) => below_cell z.h cs
      have KP := Lib.hid (fun (W : World) (hb : Below wr.heap.size wr W) => place_any W _ (X.take k) x.id (((HX.out.below HWR.out).below hb).take hk) (by rw [List.length_take]; omega))
      have KT := Lib.hid (fun W => rterminal_any x.st W)
      have HXK := Lib.hid hx
      clear hx hr ci cs hW
      have hkc : k ≤ cx := by omega
      by_cases e1 : x.id < 1
      · have hno := Lib.hid (hNo.out k x HXK.out (fun h => by have := h.lo; omega))
        go_upto_region 7 with fail
        refine Mix.wp_region_mix [([0, 1, 2, 3, 4, 5, 6, 7, 8, 9, 10, 11, 12, 13, 14, 15, 16, 17, 18, 19, 20, 21, 22, 23], 24), ([25, 26, 27, 28, 29, 30, 31, 32, 34, 35, 36, 37], 33)] [38, 39] (fun w' => ∃ x : Mix.InS (fun z => Below wr.heap.size wr z), w' = x.w) (by kernel_rfl) (by kernel_rfl) (Mix.inS_mk (Below.refl _ _).drew) ?_
        have hbd : Below wr.heap.size wr wr.drew := (Below.refl _ _).drew
        generalize wr.drew = W4 at hbd ⊢
        refine Mix.stages_cons ?_
        simp only [Mix.pickL, List.getElem?_cons_zero, List.getElem?_cons_succ]
        repeat (first
          | go_big_quiet_skip
          | (go_big_quiet_want; (go_big_quiet_op; go_big_quiet_on)))
        refine wpQuiet_nil ?_
        go_wp2_with (fail)
        refine Mix.onward_in hbd ?_
        refine Mix.stages_cons ?_
        simp only [Mix.pickL, List.getElem?_cons_zero, List.getElem?_cons_succ]
        repeat (first
          | go_big_quiet_skip
          | (go_big_quiet_want; (go_big_quiet_op; go_big_quiet_on)))
        refine wpQuiet_nil ?_
        go_wp2_with (fail)
        refine Mix.onward_in hbd ?_
        refine Mix.stages_nil ?_
        simp only [Mix.pickL, List.getElem?_cons_zero, List.getElem?_cons_succ]
        repeat (first
          | go_big_quiet_skip
          | (go_big_quiet_want; (go_big_quiet_op; go_big_quiet_on)))
        refine wpQuiet_nil ?_
        clear d1 d2
        go_wp2_with fail
        go_ret
        exact NO.out _ _ hno.out rfl (bthen' HB3.out (bthen' HWR.out hbd))
      by_cases e2 : next ≤ x.id
      · have hno := Lib.hid (hNo.out k x HXK.out (fun h => by have := h.hi; omega))
        go_upto_region 7 with fail
        refine Mix.wp_region_mix [([0, 1, 2, 3, 4, 5, 6, 7, 8, 9, 10, 11, 12, 13, 14, 15, 16, 17, 18, 19, 20, 21, 22, 23], 24), ([25, 26, 27, 28, 29, 30, 31, 32, 34, 35, 36, 37], 33)] [38, 39] (fun w' => ∃ x : Mix.InS (fun z => Below wr.heap.size wr z), w' = x.w) (by kernel_rfl) (by kernel_rfl) (Mix.inS_mk (Below.refl _ _).drew) ?_
        have hbd : Below wr.heap.size wr wr.drew := (Below.refl _ _).drew
        generalize wr.drew = W4 at hbd ⊢
        refine Mix.stages_cons ?_
        simp only [Mix.pickL, List.getElem?_cons_zero, List.getElem?_cons_succ]
        repeat (first
          | go_big_quiet_skip
          | (go_big_quiet_want; (go_big_quiet_op; go_big_quiet_on)))
        refine wpQuiet_nil ?_
        go_wp2_with (fail)
        refine Mix.onward_in hbd ?_
        refine Mix.stages_cons ?_
        simp only [Mix.pickL, List.getElem?_cons_zero, List.getElem?_cons_succ]
        repeat (first
          | go_big_quiet_skip
          | (go_big_quiet_want; (go_big_quiet_op; go_big_quiet_on)))
        refine wpQuiet_nil ?_
        go_wp2_with (fail)
        refine Mix.onward_in hbd ?_
        refine Mix.stages_nil ?_
        simp only [Mix.pickL, List.getElem?_cons_zero, List.getElem?_cons_succ]
        repeat (first
          | go_big_quiet_skip
          | (go_big_quiet_want; (go_big_quiet_op; go_big_quiet_on)))
        refine wpQuiet_nil ?_
        clear d1 d2
        go_wp2_with fail
        go_ret
        exact NO.out _ _ hno.out rfl (bthen' HB3.out (bthen' HWR.out hbd))
      cases e3 : got (X.take k) x.id with
      | some y =>
        have hno := Lib.hid (hNo.out k x HXK.out (fun h => by rw [h.new] at e3; cases e3))
        obtain ⟨q, hq⟩ : ∃ q, placeN (X.take k) x.id = some q := by
          cases hp : placeN (X.take k) x.id with
          | none => rw [place_got_none.1 hp] at e3; cases e3
          | some q => exact ⟨q, rfl⟩
        have hpi : placeI (X.take k) x.id = (q : Int) := by unfold placeI; rw [hq]
        rw [hpi] at KP
        clear e3 hq hpi
        go_upto_region 7 with fail
        refine Mix.wp_region_mix [([0, 1, 2, 3, 4, 5, 6, 7, 8, 9, 10, 11, 12, 13, 14, 15, 16, 17, 18, 19, 20, 21, 22, 23], 24), ([25, 26, 27, 28, 29, 30, 31, 32, 34, 35, 36, 37], 33)] [38, 39] (fun w' => ∃ x : Mix.InS (fun z => Below wr.heap.size wr z), w' = x.w) (by kernel_rfl) (by kernel_rfl) (Mix.inS_mk (Below.refl _ _).drew) ?_
        have hbd : Below wr.heap.size wr wr.drew := (Below.refl _ _).drew
        generalize wr.drew = W4 at hbd ⊢
        refine Mix.stages_cons ?_
        simp only [Mix.pickL, List.getElem?_cons_zero, List.getElem?_cons_succ]
        repeat (first
          | go_big_quiet_skip
          | (go_big_quiet_want; (go_big_quiet_op; go_big_quiet_on)))
        refine wpQuiet_nil ?_
        go_wp2_with (go_at_call 31; refine (KP.out W4 hbd).mono ?_; rintro e w' ⟨rfl, rfl⟩)
        refine Mix.onward_in hbd ?_
        refine Mix.stages_cons ?_
        simp only [Mix.pickL, List.getElem?_cons_zero, List.getElem?_cons_succ]
        repeat (first
          | go_big_quiet_skip
          | (go_big_quiet_want; (go_big_quiet_op; go_big_quiet_on)))
        refine wpQuiet_nil ?_
        go_wp2_with (fail)
        refine Mix.onward_in hbd ?_
        refine Mix.stages_nil ?_
        simp only [Mix.pickL, List.getElem?_cons_zero, List.getElem?_cons_succ]
        repeat (first
          | go_big_quiet_skip
          | (go_big_quiet_want; (go_big_quiet_op; go_big_quiet_on)))
        refine wpQuiet_nil ?_
        clear d1 d2
        go_wp2_with fail
        go_ret
        exact NO.out _ _ hno.out rfl (bthen' HB3.out (bthen' HWR.out hbd))
      | none =>
        have hpi : placeI (X.take k) x.id = -1 := by unfold placeI; rw [place_got_none.2 e3]
        rw [hpi] at KP
        have E3 := Lib.hid e3
        clear e3 hpi
        by_cases e4 : term x.st = decide (L.length ≤ k)
        · have E4 := Lib.hid e4
          rw [e4] at KT
          clear e4
          by_cases hkl : k < L.length
          · have e4d : decide (L.length ≤ k) = false := decide_eq_false (by omega)
            rw [e4d] at KT
            have hxl : L[k]? = some x := by rw [← HXL.out k hkl]; exact HXK.out
            by_cases hk0 : k = 0
            · have hk1 : decide (0 < k) = false := decide_eq_false (by omega)
              have HK0 := Lib.hid hk0
              clear hk0
              go_upto_region 7 with fail
              refine Mix.wp_region_mix [([0, 1, 2, 3, 4, 5, 6, 7, 8, 9, 10, 11, 12, 13, 14, 15, 16, 17, 18, 19, 20, 21, 22, 23], 24), ([25, 26, 27, 28, 29, 30, 31, 32, 34, 35, 36, 37], 33)] [38, 39] (fun w' => ∃ x : Mix.InS (fun z => Below wr.heap.size wr z), w' = x.w) (by kernel_rfl) (by kernel_rfl) (Mix.inS_mk (Below.refl _ _).drew) ?_
              have hbd : Below wr.heap.size wr wr.drew := (Below.refl _ _).drew
              generalize wr.drew = W4 at hbd ⊢
              refine Mix.stages_cons ?_
              simp only [Mix.pickL, List.getElem?_cons_zero, List.getElem?_cons_succ]
              repeat (first
                | go_big_quiet_skip
                | (go_big_quiet_want; (go_big_quiet_op; go_big_quiet_on)))
              refine wpQuiet_nil ?_
              go_wp2_with (go_at_call 31; refine (KP.out W4 hbd).mono ?_; rintro e w' ⟨rfl, rfl⟩)
              refine Mix.onward_in hbd ?_
              refine Mix.stages_cons ?_
              simp only [Mix.pickL, List.getElem?_cons_zero, List.getElem?_cons_succ]
              repeat (first
                | go_big_quiet_skip
                | (go_big_quiet_want; (go_big_quiet_op; go_big_quiet_on)))
              refine wpQuiet_nil ?_
              go_wp2_with (go_at_call 16; refine (KT.out _).mono ?_; rintro e w' ⟨rfl, rfl⟩)
              refine Mix.onward_in hbd ?_
              refine Mix.stages_nil ?_
              simp only [Mix.pickL, List.getElem?_cons_zero, List.getElem?_cons_succ]
              repeat (first
                | go_big_quiet_skip
                | (go_big_quiet_want; (go_big_quiet_op; go_big_quiet_on)))
              refine wpQuiet_nil ?_
              clear d1 d2
              have HOK := Lib.hid (show StepOk next L X k x from ⟨by omega, by omega, E3.out, E4.out, fun y h1 h2 => by have := HK0.out; omega⟩)
              go_upto_region 9 with fail
              refine wp_region_later (by kernel_rfl) (by kernel_rfl) (Below.refl _ _) ?_
              repeat (first
                | go_big_quiet_skip
                | (go_big_quiet_want; (go_big_quiet_op; go_big_quiet_on)))
              refine wpQuiet_nil ?_
              rintro ⟨W5, hb5⟩
              dsimp only
              go_wp2_with fail
              go_roundw
              case rel => exact ⟨k + 1, by omega, by go_num, bthen' HWR.out (bthen' hbd hb5), fun j y hj hy => by
                by_cases hjk : j = k
                · subst hjk
                  rw [HXK.out] at hy
                  cases hy
                  exact HOK.out
                · exact HE.out j y (by omega) hy⟩
              case measure => simp [intOf]; omega
            · have hk1 : decide (0 < k) = true := decide_eq_true (by omega)
              have hkp : 0 < k := by omega
              obtain ⟨y, hy⟩ : ∃ y, L[k - 1]? = some y := ⟨_, List.getElem?_eq_getElem (by omega)⟩
              obtain ⟨b1, o1, rfl, hr1⟩ := (HL.out.below (bthen' HB3.out HWR.out)).at hxl
              obtain ⟨b2, o2, e22, hr2⟩ := (HL.out.below (bthen' HB3.out HWR.out)).at hy
              obtain ⟨rfl, rfl⟩ : b1 = b2 ∧ o1 = o2 := by simpa using e22
              have l1 := op_id_at hr1
              have l2 := op_id_at hr2
              have LL1 := Lib.hid l1
              have LL2 := Lib.hid l2
              have HY := Lib.hid hy
              clear l1 l2 hr1 hr2 e22 hy hxl
              by_cases e5 : x.id ≤ y.id
              · have hno := Lib.hid (hNo.out k x HXK.out (fun h => by have := h.rise y (by omega) hkl HY.out; omega))
                go_upto_region 7 with fail
                refine Mix.wp_region_mix [([0, 1, 2, 3, 4, 5, 6, 7, 8, 9, 10, 11, 12, 13, 14, 15, 16, 17, 18, 19, 20, 21, 22, 23], 24), ([25, 26, 27, 28, 29, 30, 31, 32, 34, 35, 36, 37], 33)] [38, 39] (fun w' => ∃ x : Mix.InS (fun z => Below wr.heap.size wr z), w' = x.w) (by kernel_rfl) (by kernel_rfl) (Mix.inS_mk (Below.refl _ _).drew) ?_
                have hbd : Below wr.heap.size wr wr.drew := (Below.refl _ _).drew
                generalize wr.drew = W4 at hbd ⊢
                refine Mix.stages_cons ?_
                simp only [Mix.pickL, List.getElem?_cons_zero, List.getElem?_cons_succ]
                repeat (first
                  | go_big_quiet_skip
                  | (go_big_quiet_want; (go_big_quiet_op; go_big_quiet_on)))
                refine wpQuiet_nil ?_
                go_wp2_with (go_at_call 31; refine (KP.out W4 hbd).mono ?_; rintro e w' ⟨rfl, rfl⟩)
                refine Mix.onward_in hbd ?_
                refine Mix.stages_cons ?_
                simp only [Mix.pickL, List.getElem?_cons_zero, List.getElem?_cons_succ]
                repeat (first
                  | go_big_quiet_skip
                  | (go_big_quiet_want; (go_big_quiet_op; go_big_quiet_on)))
                refine wpQuiet_nil ?_
                go_wp2_with (go_at_call 16; refine (KT.out _).mono ?_; rintro e w' ⟨rfl, rfl⟩)
                refine Mix.onward_in hbd ?_
                refine Mix.stages_nil ?_
                simp only [Mix.pickL, List.getElem?_cons_zero, List.getElem?_cons_succ]
                repeat (first
                  | go_big_quiet_skip
                  | (go_big_quiet_want; (go_big_quiet_op; go_big_quiet_on)))
                refine wpQuiet_nil ?_
                go_upto_region 9 with fail
                have d5 := fun (z : Later W4) => below_cell (bthen' hbd z.h) LL1.out
                have d6 := fun (z : Later W4) => below_cell (bthen' hbd z.h) LL2.out
                refine wp_region_later (by kernel_rfl) (by kernel_rfl) (Below.refl _ _) ?_
                repeat (first
                  | go_big_quiet_skip
                  | (go_big_quiet_want; (go_big_quiet_op; go_big_quiet_on)))
                refine wpQuiet_nil ?_
                rintro ⟨W5, hb5⟩
                dsimp only
                go_wp2_with fail
                go_ret
                exact NO.out _ _ hno.out rfl (bthen' HB3.out (bthen' HWR.out (bthen' hbd hb5)))
              · have HOK := Lib.hid (show StepOk next L X k x from ⟨by omega, by omega, E3.out, E4.out, fun z h1 h2 h3 => by rw [HY.out] at h3; cases h3; omega⟩)
                go_upto_region 7 with fail
                refine Mix.wp_region_mix [([0, 1, 2, 3, 4, 5, 6, 7, 8, 9, 10, 11, 12, 13, 14, 15, 16, 17, 18, 19, 20, 21, 22, 23], 24), ([25, 26, 27, 28, 29, 30, 31, 32, 34, 35, 36, 37], 33)] [38, 39] (fun w' => ∃ x : Mix.InS (fun z => Below wr.heap.size wr z), w' = x.w) (by kernel_rfl) (by kernel_rfl) (Mix.inS_mk (Below.refl _ _).drew) ?_
                have hbd : Below wr.heap.size wr wr.drew := (Below.refl _ _).drew
                generalize wr.drew = W4 at hbd ⊢
                refine Mix.stages_cons ?_
                simp only [Mix.pickL, List.getElem?_cons_zero, List.getElem?_cons_succ]
                repeat (first
                  | go_big_quiet_skip
                  | (go_big_quiet_want; (go_big_quiet_op; go_big_quiet_on)))
                refine wpQuiet_nil ?_
                go_wp2_with (go_at_call 31; refine (KP.out W4 hbd).mono ?_; rintro e w' ⟨rfl, rfl⟩)
                refine Mix.onward_in hbd ?_
                refine Mix.stages_cons ?_
                simp only [Mix.pickL, List.getElem?_cons_zero, List.getElem?_cons_succ]
                repeat (first
                  | go_big_quiet_skip
                  | (go_big_quiet_want; (go_big_quiet_op; go_big_quiet_on)))
                refine wpQuiet_nil ?_
                go_wp2_with (go_at_call 16; refine (KT.out _).mono ?_; rintro e w' ⟨rfl, rfl⟩)
                refine Mix.onward_in hbd ?_
                refine Mix.stages_nil ?_
                simp only [Mix.pickL, List.getElem?_cons_zero, List.getElem?_cons_succ]
                repeat (first
                  | go_big_quiet_skip
                  | (go_big_quiet_want; (go_big_quiet_op; go_big_quiet_on)))
                refine wpQuiet_nil ?_
                clear d1 d2
                go_upto_region 9 with fail
                have d5 := fun (z : Later W4) => below_cell (bthen' hbd z.h) LL1.out
                have d6 := fun (z : Later W4) => below_cell (bthen' hbd z.h) LL2.out
                refine wp_region_later (by kernel_rfl) (by kernel_rfl) (Below.refl _ _) ?_
                repeat (first
                  | go_big_quiet_skip
                  | (go_big_quiet_want; (go_big_quiet_op; go_big_quiet_on)))
                refine wpQuiet_nil ?_
                rintro ⟨W5, hb5⟩
                dsimp only
                go_wp2_with fail
                go_roundw
                case rel => exact ⟨k + 1, by omega, by go_num, bthen' HWR.out (bthen' hbd hb5), fun j y hj hy => by
                  by_cases hjk : j = k
                  · subst hjk
                    rw [HXK.out] at hy
                    cases hy
                    exact HOK.out
                  · exact HE.out j y (by omega) hy⟩
                case measure => simp [intOf]; omega
          · have hkl2 : L.length ≤ k := by omega
            have e4d : decide (L.length ≤ k) = true := decide_eq_true (by omega)
            have e5d : decide (k < L.length) = false := decide_eq_false (by omega)
            rw [e4d] at KT
            by_cases hk0 : 0 < k
            · have hk1 : decide (0 < k) = true := decide_eq_true hk0
              have HK0 := Lib.hid hk0
              clear hk0
              go_upto_region 7 with fail
              refine Mix.wp_region_mix [([0, 1, 2, 3, 4, 5, 6, 7, 8, 9, 10, 11, 12, 13, 14, 15, 16, 17, 18, 19, 20, 21, 22, 23], 24), ([25, 26, 27, 28, 29, 30, 31, 32, 34, 35, 36, 37], 33)] [38, 39] (fun w' => ∃ x : Mix.InS (fun z => Below wr.heap.size wr z), w' = x.w) (by kernel_rfl) (by kernel_rfl) (Mix.inS_mk (Below.refl _ _).drew) ?_
              have hbd : Below wr.heap.size wr wr.drew := (Below.refl _ _).drew
              generalize wr.drew = W4 at hbd ⊢
              refine Mix.stages_cons ?_
              simp only [Mix.pickL, List.getElem?_cons_zero, List.getElem?_cons_succ]
              repeat (first
                | go_big_quiet_skip
                | (go_big_quiet_want; (go_big_quiet_op; go_big_quiet_on)))
              refine wpQuiet_nil ?_
              go_wp2_with (go_at_call 31; refine (KP.out W4 hbd).mono ?_; rintro e w' ⟨rfl, rfl⟩)
              refine Mix.onward_in hbd ?_
              refine Mix.stages_cons ?_
              simp only [Mix.pickL, List.getElem?_cons_zero, List.getElem?_cons_succ]
              repeat (first
                | go_big_quiet_skip
                | (go_big_quiet_want; (go_big_quiet_op; go_big_quiet_on)))
              refine wpQuiet_nil ?_
              go_wp2_with (go_at_call 16; refine (KT.out _).mono ?_; rintro e w' ⟨rfl, rfl⟩)
              refine Mix.onward_in hbd ?_
              refine Mix.stages_nil ?_
              simp only [Mix.pickL, List.getElem?_cons_zero, List.getElem?_cons_succ]
              repeat (first
                | go_big_quiet_skip
                | (go_big_quiet_want; (go_big_quiet_op; go_big_quiet_on)))
              refine wpQuiet_nil ?_
              clear d1 d2
              have HOK := Lib.hid (show StepOk next L X k x from ⟨by omega, by omega, E3.out, E4.out, fun y h1 h2 => by omega⟩)
              go_upto_region 9 with fail
              refine wp_region_later (by kernel_rfl) (by kernel_rfl) (Below.refl _ _) ?_
              repeat (first
                | go_big_quiet_skip
                | (go_big_quiet_want; (go_big_quiet_op; go_big_quiet_on)))
              refine wpQuiet_nil ?_
              rintro ⟨W5, hb5⟩
              dsimp only
              go_wp2_with fail
              go_roundw
              case rel => exact ⟨k + 1, by omega, by go_num, bthen' HWR.out (bthen' hbd hb5), fun j y hj hy => by
                by_cases hjk : j = k
                · subst hjk
                  rw [HXK.out] at hy
                  cases hy
                  exact HOK.out
                · exact HE.out j y (by omega) hy⟩
              case measure => simp [intOf]; omega
            · have hk1 : decide (0 < k) = false := decide_eq_false hk0
              have HK0 := Lib.hid hk0
              clear hk0
              go_upto_region 7 with fail
              refine Mix.wp_region_mix [([0, 1, 2, 3, 4, 5, 6, 7, 8, 9, 10, 11, 12, 13, 14, 15, 16, 17, 18, 19, 20, 21, 22, 23], 24), ([25, 26, 27, 28, 29, 30, 31, 32, 34, 35, 36, 37], 33)] [38, 39] (fun w' => ∃ x : Mix.InS (fun z => Below wr.heap.size wr z), w' = x.w) (by kernel_rfl) (by kernel_rfl) (Mix.inS_mk (Below.refl _ _).drew) ?_
              have hbd : Below wr.heap.size wr wr.drew := (Below.refl _ _).drew
              generalize wr.drew = W4 at hbd ⊢
              refine Mix.stages_cons ?_
              simp only [Mix.pickL, List.getElem?_cons_zero, List.getElem?_cons_succ]
              repeat (first
                | go_big_quiet_skip
                | (go_big_quiet_want; (go_big_quiet_op; go_big_quiet_on)))
              refine wpQuiet_nil ?_
              go_wp2_with (go_at_call 31; refine (KP.out W4 hbd).mono ?_; rintro e w' ⟨rfl, rfl⟩)
              refine Mix.onward_in hbd ?_
              refine Mix.stages_cons ?_
              simp only [Mix.pickL, List.getElem?_cons_zero, List.getElem?_cons_succ]
              repeat (first
                | go_big_quiet_skip
                | (go_big_quiet_want; (go_big_quiet_op; go_big_quiet_on)))
              refine wpQuiet_nil ?_
              go_wp2_with (go_at_call 16; refine (KT.out _).mono ?_; rintro e w' ⟨rfl, rfl⟩)
              refine Mix.onward_in hbd ?_
              refine Mix.stages_nil ?_
              simp only [Mix.pickL, List.getElem?_cons_zero, List.getElem?_cons_succ]
              repeat (first
                | go_big_quiet_skip
                | (go_big_quiet_want; (go_big_quiet_op; go_big_quiet_on)))
              refine wpQuiet_nil ?_
              clear d1 d2
              have HOK := Lib.hid (show StepOk next L X k x from ⟨by omega, by omega, E3.out, E4.out, fun y h1 h2 => by omega⟩)
              go_upto_region 9 with fail
              refine wp_region_later (by kernel_rfl) (by kernel_rfl) (Below.refl _ _) ?_
              repeat (first
                | go_big_quiet_skip
                | (go_big_quiet_want; (go_big_quiet_op; go_big_quiet_on)))
              refine wpQuiet_nil ?_
              rintro ⟨W5, hb5⟩
              dsimp only
              go_wp2_with fail
              go_roundw
              case rel => exact ⟨k + 1, by omega, by go_num, bthen' HWR.out (bthen' hbd hb5), fun j y hj hy => by
                by_cases hjk : j = k
                · subst hjk
                  rw [HXK.out] at hy
                  cases hy
                  exact HOK.out
                · exact HE.out j y (by omega) hy⟩
              case measure => simp [intOf]; omega
        · have hno := Lib.hid (hNo.out k x HXK.out (fun h => e4 h.st))
          by_cases hkl : k < L.length
          · have e4d : term x.st = true := by
              rw [decide_eq_false (by omega)] at e4
              cases h : term x.st with
              | true => rfl
              | false => rw [h] at e4; exact absurd rfl e4
            rw [e4d] at KT
            clear e4d e4
            have e6d : decide (L.length ≤ k) = false := decide_eq_false (by omega)
            go_upto_region 7 with fail
            refine Mix.wp_region_mix [([0, 1, 2, 3, 4, 5, 6, 7, 8, 9, 10, 11, 12, 13, 14, 15, 16, 17, 18, 19, 20, 21, 22, 23], 24), ([25, 26, 27, 28, 29, 30, 31, 32, 34, 35, 36, 37], 33)] [38, 39] (fun w' => ∃ x : Mix.InS (fun z => Below wr.heap.size wr z), w' = x.w) (by kernel_rfl) (by kernel_rfl) (Mix.inS_mk (Below.refl _ _).drew) ?_
            have hbd : Below wr.heap.size wr wr.drew := (Below.refl _ _).drew
            generalize wr.drew = W4 at hbd ⊢
            refine Mix.stages_cons ?_
            simp only [Mix.pickL, List.getElem?_cons_zero, List.getElem?_cons_succ]
            repeat (first
              | go_big_quiet_skip
              | (go_big_quiet_want; (go_big_quiet_op; go_big_quiet_on)))
            refine wpQuiet_nil ?_
            go_wp2_with (go_at_call 31; refine (KP.out W4 hbd).mono ?_; rintro e w' ⟨rfl, rfl⟩)
            refine Mix.onward_in hbd ?_
            refine Mix.stages_cons ?_
            simp only [Mix.pickL, List.getElem?_cons_zero, List.getElem?_cons_succ]
            repeat (first
              | go_big_quiet_skip
              | (go_big_quiet_want; (go_big_quiet_op; go_big_quiet_on)))
            refine wpQuiet_nil ?_
            go_wp2_with (go_at_call 16; refine (KT.out _).mono ?_; rintro e w' ⟨rfl, rfl⟩)
            refine Mix.onward_in hbd ?_
            refine Mix.stages_nil ?_
            simp only [Mix.pickL, List.getElem?_cons_zero, List.getElem?_cons_succ]
            repeat (first
              | go_big_quiet_skip
              | (go_big_quiet_want; (go_big_quiet_op; go_big_quiet_on)))
            refine wpQuiet_nil ?_
            clear d1 d2
            go_wp2_with fail
            go_ret
            exact NO.out _ _ hno.out rfl (bthen' HB3.out (bthen' HWR.out hbd))
          · have hkl2 : L.length ≤ k := by omega
            have e4d : term x.st = false := by
              rw [decide_eq_true (by omega)] at e4
              cases h : term x.st with
              | true => rw [h] at e4; exact absurd rfl e4
              | false => rfl
            rw [e4d] at KT
            clear e4d e4
            have e6d : decide (L.length ≤ k) = true := decide_eq_true (by omega)
            go_upto_region 7 with fail
            refine Mix.wp_region_mix [([0, 1, 2, 3, 4, 5, 6, 7, 8, 9, 10, 11, 12, 13, 14, 15, 16, 17, 18, 19, 20, 21, 22, 23], 24), ([25, 26, 27, 28, 29, 30, 31, 32, 34, 35, 36, 37], 33)] [38, 39] (fun w' => ∃ x : Mix.InS (fun z => Below wr.heap.size wr z), w' = x.w) (by kernel_rfl) (by kernel_rfl) (Mix.inS_mk (Below.refl _ _).drew) ?_
            have hbd : Below wr.heap.size wr wr.drew := (Below.refl _ _).drew
            generalize wr.drew = W4 at hbd ⊢
            refine Mix.stages_cons ?_
            simp only [Mix.pickL, List.getElem?_cons_zero, List.getElem?_cons_succ]
            repeat (first
              | go_big_quiet_skip
              | (go_big_quiet_want; (go_big_quiet_op; go_big_quiet_on)))
            refine wpQuiet_nil ?_
            go_wp2_with (go_at_call 31; refine (KP.out W4 hbd).mono ?_; rintro e w' ⟨rfl, rfl⟩)
            refine Mix.onward_in hbd ?_
            refine Mix.stages_cons ?_
            simp only [Mix.pickL, List.getElem?_cons_zero, List.getElem?_cons_succ]
            repeat (first
              | go_big_quiet_skip
              | (go_big_quiet_want; (go_big_quiet_op; go_big_quiet_on)))
            refine wpQuiet_nil ?_
            go_wp2_with (go_at_call 16; refine (KT.out _).mono ?_; rintro e w' ⟨rfl, rfl⟩)
            refine Mix.onward_in hbd ?_
            refine Mix.stages_nil ?_
            simp only [Mix.pickL, List.getElem?_cons_zero, List.getElem?_cons_succ]
            repeat (first
              | go_big_quiet_skip
              | (go_big_quiet_want; (go_big_quiet_op; go_big_quiet_on)))
            refine wpQuiet_nil ?_
            clear d1 d2
            go_wp2_with fail
            go_ret
            exact NO.out _ _ hno.out rfl (bthen' HB3.out (bthen' HWR.out hbd))
    · obtain rfl : k = X.length := by omega
      have hy := Lib.hid (hYes.out HE.out)
      go_wp2_with fail
      go_ret
      exact ⟨true, rfl, bthen' HB3.out HWR.out, by simp [hy.out]⟩
end Go.Proofs.Ytddmajgadaooaaa
