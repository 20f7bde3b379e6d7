/- The walk of the statement on calls (printed by genfifoacts.py). -/
import Derived.Test.YtegkjbndnonneaaFifoActs
set_option linter.unusedVariables false
namespace Go.Proofs.Ytegkjbndnonneaa
open Go.RowKit

set_option maxRecDepth 100000 in
set_option maxHeartbeats 16000000 in
theorem fifoActs_yes (w : World) (v : Value) (A : List Ac) (hv : Reads acR w v A) (h1 : A.length ≤ 200) :
    Calls Try.prog 3 #[v] w fun e w' => e = .returned (.bool true) ∧ Below w.heap.size w w' := by
  obtain ⟨av, capv, rfl⟩ := hv.form
  have HV := Lib.hid hv
  clear hv
  go_enter Try.func3, Try.ntmps3
  go_wp2_with (go_at_call 6; refine (newQ_any w).mono ?_; rintro e W1 ⟨p, m, rfl, hb1, hQ1⟩)
  go_loopw [4, 5] (fun u i wr => ∃ (k : Nat) (G : List Lk), k ≤ A.length ∧ G.length ≤ k ∧ i = .int .i64 k ∧ Stands w wr p m u G) (fun u i _ => A.length - (intOf i).toNat)
  case atStart =>
    have hb2 : Below W1.heap.size W1 (W1.alloc (.cells #[] 32)) := (Below.refl _ _).alloc (Nat.le_refl _) _
    exact ⟨0, [], by omega, by simp, rfl, bthen' hb1 hb2, hQ1.below hb2, .inl ⟨rfl, _, _, rfl⟩, _, _, rfl, by simp⟩
  case round =>
    clear hb1 hQ1
    obtain ⟨k, G, hk, hGk, rfl, hS⟩ := hrel
    have HS := Lib.hid hS
    obtain ⟨hW, -, -, au, cu, rfl, hcu⟩ := hS
    have hwr := hW.size
    by_cases hlt : k < A.length
    · obtain ⟨a, ha⟩ : ∃ a, A[k]? = some a := ⟨_, List.getElem?_eq_getElem hlt⟩
      obtain ⟨b, off, rfl, hr2⟩ := (HV.out.below hW).at ha
      have hblt : b < wr.heap.size := World.block_lt_of_cell? wr _ (ac_parts hr2).1
      clear ha hW
      go_upto_block 2 with (first
        | (refine wpList_load_mid rfl 28 _ rfl b (off + k * acR.n) rfl (acR.cells a) _ hr2 Try.underlying28 rfl (acOk.row a) ?_)
        | (refine wpList_store_mid rfl 28 _ _ rfl wr.heap.size 0 (acR.cells a).toArray rfl rfl (freshR_there acOk wr a) (acOk.row' a) (acOk.one' a) ?_; show wpList _ _ _ _ _ (freshR acR wr a); have hr3 := freshR_range acOk wr a; have hb3 := freshR_below (R := acR) wr a; generalize freshR acR wr a = W3 at hr3 hb3 ⊢; obtain ⟨n0, n1, n2⟩ := ac_parts hr3))
      have HS3 := Lib.hid (HS.out.below hb3)
      have hlow3 := Lib.hid (show ∀ i ∈ qF p m G, i < wr.heap.size from fun i hi => (HS.out.2.1.low i hi).2)
      have hs3 := hb3.size
      clear hr2 HS hb3
      go_cut [4] (fun u wx => Turned w p m (k + 1) wr.heap.size a u wx)
      case first =>
        have HR3 := Lib.hid hr3
        clear hr3
        have hbF : wr.heap.size ∉ qF p m G := fun hin => by have := hlow3.out _ hin; omega
        have hW3 := Lib.hid HS3.out.1
        by_cases hkd : a.kind = 0
        · have hkb : (a.kind == 0) = true := by simp [hkd]
          clear hkd
          by_cases hx : 1 ≤ a.id ∧ 1 ≤ a.cost ∧ a.cost ≤ 64
          · rcases in_or G a.id with ⟨i, g, y, hy, ey⟩ | hno
            · have KA := Lib.hid (refPush_there W3 _ (its G) HS3.out.2.2.1.lts (by rw [its_length]; omega) ⟨a.id, a.cost⟩ hx (by rw [ixI_at (its G) 0 i y HS3.out.2.1.ids (its_at hy) ey]; omega))
              have KB := Lib.hid (fun (W : World) (hb : Below W3.heap.size W3 W) => push_there W w.heap.size p m G (HS3.out.2.1.below hb) i g y ⟨a.id, a.cost⟩ hy ey hx)
              clear hy ey hx
              go_wp2_with (first
                | (go_at_call 7; refine KA.out.mono ?_; rintro e W4 ⟨rfl, hb4⟩; obtain ⟨m0, m1, m2⟩ := ac_parts (below_range hb4 HR3.out))
                | (go_at_call 9; refine (KB.out _ hb4).mono ?_; rintro e W5 ⟨rfl, hb5⟩)
                | (go_at_call 8; refine (num14_any _ _).mono ?_; rintro e w' ⟨rfl, rfl⟩))
              go_meet
              exact ⟨G, by omega, HS3.out.below (bthen' hb4 hb5), below_range (bthen' hb4 hb5) HR3.out⟩
            · have KA := Lib.hid (refPush_yes W3 _ (its G) HS3.out.2.2.1.lts (by rw [its_length]; omega) ⟨a.id, a.cost⟩ hx (by rw [ixI_none (its G) 0 hno]; omega))
              have KB := Lib.hid (fun (W : World) (hb : Below W3.heap.size W3 W) (hB : w.heap.size ≤ W.heap.size) => push_yes W w.heap.size p m G (HS3.out.2.1.below hb) ⟨a.id, a.cost⟩ hno hx hB (by omega))
              clear hno hx
              go_wp2_with (first
                | (go_at_call 7; refine KA.out.mono ?_; rintro e W4 ⟨v4, rfl, hb4, hO4⟩; obtain ⟨a4, cap4, rfl⟩ := hO4.formS; obtain ⟨m0, m1, m2⟩ := ac_parts (below_range hb4 HR3.out); have hs4 := hb4.size; have HO4 := Lib.hid hO4; clear hO4)
                | (go_at_call 9; refine (KB.out _ hb4 (by omega)).mono ?_; rintro e W5 ⟨rfl, g, hg, hU5, hQ5⟩)
                | (go_at_call 8; refine (num14_any _ _).mono ?_; rintro e w' ⟨rfl, rfl⟩))
              go_meet
              exact push_turned (by omega) hW3.out (HS3.out.2.1.below hb4) (fun i hi => by have := hlow3.out i hi; omega) hb4 HO4.out hg hU5 hQ5 HR3.out hbF
          · have KA := Lib.hid (refPush_bad W3 (.slice au G.length cu) ⟨a.id, a.cost⟩ hx)
            have KB := Lib.hid (fun (W : World) => push_bad W p ⟨a.id, a.cost⟩ hx)
            clear hx
            go_wp2_with (first
              | (go_at_call 7; refine KA.out.mono ?_; rintro e W4 ⟨rfl, hb4⟩; obtain ⟨m0, m1, m2⟩ := ac_parts (below_range hb4 HR3.out))
              | (go_at_call 9; refine (KB.out _).mono ?_; rintro e W5 ⟨rfl, hb5⟩)
              | (go_at_call 8; refine (num14_any _ _).mono ?_; rintro e w' ⟨rfl, rfl⟩))
            go_meet
            exact ⟨G, by omega, HS3.out.below (bthen' hb4 hb5), below_range (bthen' hb4 hb5) HR3.out⟩
        · have hkb : (a.kind == 0) = false := by simp [hkd]
          clear hkd
          by_cases hkd1 : a.kind = 1
          · have hkb1 : (a.kind == 1) = true := by simp [hkd1]
            clear hkd1
            rcases G with _ | ⟨⟨g, x⟩, G⟩
            · have HQ := Lib.hid HS3.out.2.1
              go_upto_region 22 with (first
                | (go_at_call 10; refine (pop_empty _ _ p m HQ.out).mono ?_; rintro e W4 ⟨rfl, hb4⟩)
                | (refine wpList_store_mid rfl 32 _ _ rfl W4.heap.size 0 (itR.cells zeroIt).toArray rfl rfl (freshR_there itOk W4 zeroIt) (itOk.row' zeroIt) (itOk.one' zeroIt) ?_; show wpList _ _ _ _ _ (freshR itR W4 zeroIt); have hx5 := freshR_range itOk W4 zeroIt; have hb5 := freshR_below (R := itR) W4 zeroIt; generalize freshR itR W4 zeroIt = W5 at hx5 hb5 ⊢))
              have RX := Lib.hid (fun (w' : World) (hx : ∃ x : Later W5, w' = x.w) => (show w'.rangeAt W4.heap.size 0 (itR.cells zeroIt) from by obtain ⟨z, rfl⟩ := hx; exact below_range z.h hx5))
              have hsame : ∀ w : World, (Op.equalIn (9998 + 2) 32 (.agg (itR.cells zeroIt).toArray) (.agg #[.int .i64 0, .int .i64 0])).run Try.prog w = .ok true w := fun w => it_eq 9998 zeroIt zeroIt w
              have hguard := itGuard
              refine wp_region_later (by kernel_rfl) (by kernel_rfl) (Below.refl _ _) ?_
              repeat (first
                | go_big_quiet_skip
                | (go_big_quiet_want; first
                  | (refine quiet_load_mid 32 _ rfl W4.heap.size 0 rfl (itR.cells zeroIt) _ RX.out Try.underlying32 rfl (itOk.row zeroIt) ?_; simp only [Act.put, List.setIfInBounds_toArray, List.set_cons_succ, List.set_cons_zero]; go_big_quiet_on)
                  | (go_big_quiet_op; go_big_quiet_on)))
              refine wpQuiet_nil ?_
              rintro ⟨W6, hb6⟩
              dsimp only
              clear hsame hguard RX
              go_wp2_with fail
              go_meet
              have hb36 := bthen' (bthen' hb4 hb5) hb6
              exact ⟨[], by simp, HS3.out.below hb36, below_range hb36 HR3.out⟩
            · have HQ := Lib.hid HS3.out.2.1
              obtain ⟨b2, off2, rfl, hb2F, hr2⟩ : ∃ b2 off2, au = some ⟨b2, off2, none⟩ ∧ b2 ∉ qF p m ((g, x) :: G) ∧ W3.rangeAt b2 (off2) (itR.cells x) := by
                rcases HS3.out.2.2.1 with ⟨h0, _⟩ | ⟨b2, off2, c2, hv, hbF, hr⟩
                · cases h0
                · simp only [Value.slice.injEq] at hv
                  exact ⟨b2, off2, hv.1, hbF, by simpa using hr 0 x rfl⟩
              go_upto_region 22 with (first
                | (go_at_call 10; refine (pop_some _ _ p m g x G HQ.out (by omega)).mono ?_; rintro e W4 ⟨rfl, hU4, hQ4⟩)
                | (refine wpList_store_mid rfl 32 _ _ rfl W4.heap.size 0 (itR.cells x).toArray rfl rfl (freshR_there itOk W4 x) (itOk.row' x) (itOk.one' x) ?_; show wpList _ _ _ _ _ (freshR itR W4 x); have hx5 := freshR_range itOk W4 x; have hb5 := freshR_below (R := itR) W4 x; generalize freshR itR W4 x = W5 at hx5 hb5 ⊢))
              have RX := Lib.hid (fun (w' : World) (hx : ∃ x : Later W5, w' = x.w) => (show w'.rangeAt W4.heap.size 0 (itR.cells x) from by obtain ⟨z, rfl⟩ := hx; exact below_range z.h hx5))
              have RW := Lib.hid (fun (w' : World) (hx : ∃ x : Later W5, w' = x.w) => (show w'.rangeAt b2 off2 (itR.cells x) from by obtain ⟨z, rfl⟩ := hx; exact below_range z.h (below_range hb5 (hU4.range hb2F hr2))))
              have hsame := fun w => it_eq 9998 x x w
              have hguard := itGuard
              refine wp_region_later (by kernel_rfl) (by kernel_rfl) (Below.refl _ _) ?_
              repeat (first
                | go_big_quiet_skip
                | (go_big_quiet_want; first
                  | (refine quiet_load_mid 32 _ rfl W4.heap.size 0 rfl (itR.cells x) _ RX.out Try.underlying32 rfl (itOk.row x) ?_; simp only [Act.put, List.setIfInBounds_toArray, List.set_cons_succ, List.set_cons_zero]; go_big_quiet_on)
                  | (refine quiet_load_mid 32 _ rfl b2 off2 rfl (itR.cells x) _ RW.out Try.underlying32 rfl (itOk.row x) ?_; simp only [Act.put, List.setIfInBounds_toArray, List.set_cons_succ, List.set_cons_zero]; go_big_quiet_on)
                  | (go_big_quiet_op; go_big_quiet_on)))
              refine wpQuiet_nil ?_
              rintro ⟨W6, hb6⟩
              dsimp only
              clear hsame hguard RX RW
              have hW4 := hU4.toBelow hW3.out hW3.out.size (fun i hi => (HQ.out.low i hi).1)
              have hb46 := bthen' hb5 hb6
              have HT := Lib.hid (show Turned w p m (k + 1) wr.heap.size a (.slice (if cu = 1 then (some ⟨b2, off2, none⟩) else (some (⟨b2, off2, none⟩ : Addr)).map (·.add (1 * 2))) G.length (cu - 1)) W6 from
                pop_turned (g := g) (x := x) (by simp at hGk; omega) (bthen' hW4 hb46) (hQ4.below hb46) (((HS3.out.2.2.1.upd hU4).upd (Upd.ofBelow _ hb46)).sub (fun i hi => by simp [qF, blocks] at hi ⊢; rcases hi with h | h | h; exact .inl h; exact .inr (.inl h); exact .inr (.inr (.inr h)))) hcu (below_range hb46 (hU4.range hbF HR3.out)))
              by_cases hc1 : cu = 1
              · subst hc1
                go_wp2_with fail
                go_meet
                exact HT.out
              · go_wp2_with fail
                go_meet
                have := HT.out
                simpa [hc1, Addr.add_mid] using this
          · have hkb1 : (a.kind == 1) = false := by simp [hkd1]
            clear hkd1
            rcases in_or G a.id with ⟨i, g, x, hy, ey⟩ | hno
            · have KD := drop_yes W3 w.heap.size p m G HS3.out.2.1 i g x hy (by omega)
              rw [ey] at KD
              have KF := fun (W : World) (h : Reads itR W (.slice au G.length cu) (its G)) => find_any W _ (its G) h (by rw [its_length]; omega) a.id
              rw [ixI_at (its G) 0 i x HS3.out.2.1.ids (its_at hy) ey, Nat.zero_add] at KF
              have KR := fun (W : World) (h : Reads itR W (.slice au G.length cu) (its G)) => refDrop_any W _ (its G) h (by rw [its_length]; omega) a.id
              rw [dropv_erase HS3.out.2.1.ids (its_at hy) ey, ← its_erase] at KR
              have hil : i < G.length := (List.getElem?_eq_some_iff.1 hy).1
              have hel : (G.eraseIdx i).length ≤ G.length := List.length_eraseIdx_le G i
              obtain ⟨b2, off2, rfl, hb2F, hr2⟩ : ∃ b2 off2, au = some ⟨b2, off2, none⟩ ∧ b2 ∉ qF p m G ∧ W3.rangeAt b2 (off2 + i * itR.n) (itR.cells x) := by
                rcases HS3.out.2.2.1 with ⟨h0, _⟩ | ⟨b2, off2, c2, hv, hbF, hr⟩
                · have := its_at hy; rw [h0] at this; simp at this
                · simp only [Value.slice.injEq] at hv
                  exact ⟨b2, off2, hv.1, hbF, hr i x (its_at hy)⟩
              have KD := Lib.hid KD
              have KF := Lib.hid KF
              have KR := Lib.hid KR
              clear hy ey
              go_upto_region 12 with (first
                | (go_at_call 11; refine KD.out.mono ?_; rintro e W4 ⟨rfl, hU4, hQ4⟩)
                | (go_at_call 12; refine (KF.out _ HV5.out.lts).mono ?_; rintro e w' ⟨rfl, rfl⟩)
                | (refine wpList_store_mid rfl 32 _ _ rfl W4.heap.size 0 (itR.cells x).toArray rfl rfl (freshR_there itOk W4 x) (itOk.row' x) (itOk.one' x) ?_; show wpList _ _ _ _ _ (freshR itR W4 x); have hx5 := freshR_range itOk W4 x; have hb5 := freshR_below (R := itR) W4 x; generalize freshR itR W4 x = W5 at hx5 hb5 ⊢; have HV5 := Lib.hid ((HS3.out.2.2.1.upd hU4).upd (Upd.ofBelow _ hb5)); have HR5 := Lib.hid (below_range hb5 (hU4.range hbF HR3.out)); obtain ⟨m0, m1, m2⟩ := ac_parts HR5.out))
              clear m0 m1 m2
              have RX := Lib.hid (fun (w' : World) (hx : ∃ x : Later W5, w' = x.w) => (show w'.rangeAt W4.heap.size 0 (itR.cells x) from by obtain ⟨z, rfl⟩ := hx; exact below_range z.h hx5))
              have RW := Lib.hid (fun (w' : World) (hx : ∃ x : Later W5, w' = x.w) => (show w'.rangeAt b2 (off2 + i * itR.n) (itR.cells x) from by obtain ⟨z, rfl⟩ := hx; exact below_range z.h (below_range hb5 (hU4.range hb2F hr2))))
              have hsame := fun w => it_eq 9998 x x w
              have hguard := itGuard
              refine wp_region_later (by kernel_rfl) (by kernel_rfl) (Below.refl _ _) ?_
              repeat (first
                | go_big_quiet_skip
                | (go_big_quiet_want; first
                  | (refine quiet_load_mid 32 _ rfl W4.heap.size 0 rfl (itR.cells x) _ RX.out Try.underlying32 rfl (itOk.row x) ?_; simp only [Act.put, List.setIfInBounds_toArray, List.set_cons_succ, List.set_cons_zero]; go_big_quiet_on)
                  | (refine quiet_load_mid 32 _ rfl b2 (off2 + i * itR.n) rfl (itR.cells x) _ RW.out Try.underlying32 rfl (itOk.row x) ?_; simp only [Act.put, List.setIfInBounds_toArray, List.set_cons_succ, List.set_cons_zero]; go_big_quiet_on)
                  | (go_big_quiet_op; go_big_quiet_on)))
              refine wpQuiet_nil ?_
              rintro ⟨W6, hb6⟩
              dsimp only
              clear hsame hguard RX RW
              have hW4 := hU4.toBelow hW3.out hW3.out.size (fun i hi => (HS3.out.2.1.low i hi).1)
              have hb46 := bthen' hb5 hb6
              have HR6 := Lib.hid (below_range hb6 HR5.out)
              obtain ⟨m0, m1, m2⟩ := ac_parts HR6.out
              go_wp2_with (go_at_call 13; refine (KR.out _ (HV5.out.upd (Upd.ofBelow _ hb6)).lts).mono ?_; rintro e W7 ⟨v7, rfl, hb7, hO7⟩)
              go_meet
              exact drop_turned (by omega) (bthen' hW4 hb46) (hQ4.below hb46) hb7 hO7 HR6.out
            · have KD := drop_no W3 w.heap.size p m G HS3.out.2.1 a.id hno
              have KF := fun (W : World) (h : Reads itR W (.slice au G.length cu) (its G)) => find_any W _ (its G) h (by rw [its_length]; omega) a.id
              rw [ixI_none (its G) 0 hno] at KF
              have KR := fun (W : World) (h : Reads itR W (.slice au G.length cu) (its G)) => refDrop_any W _ (its G) h (by rw [its_length]; omega) a.id
              rw [dropv_none hno] at KR
              have KD := Lib.hid KD
              have KF := Lib.hid KF
              have KR := Lib.hid KR
              clear hno
              go_upto_region 12 with (first
                | (go_at_call 11; refine KD.out.mono ?_; rintro e W4 ⟨rfl, hb4⟩)
                | (go_at_call 12; refine (KF.out _ HV5.out.lts).mono ?_; rintro e w' ⟨rfl, rfl⟩)
                | (refine wpList_store_mid rfl 32 _ _ rfl W4.heap.size 0 (itR.cells zeroIt).toArray rfl rfl (freshR_there itOk W4 zeroIt) (itOk.row' zeroIt) (itOk.one' zeroIt) ?_; show wpList _ _ _ _ _ (freshR itR W4 zeroIt); have hx5 := freshR_range itOk W4 zeroIt; have hb5 := freshR_below (R := itR) W4 zeroIt; generalize freshR itR W4 zeroIt = W5 at hx5 hb5 ⊢; have HV5 := Lib.hid (HS3.out.2.2.1.upd (Upd.ofBelow _ (bthen' hb4 hb5))); have HR5 := Lib.hid (below_range hb5 (below_range hb4 HR3.out)); obtain ⟨m0, m1, m2⟩ := ac_parts HR5.out))
              clear m0 m1 m2
              have RX := Lib.hid (fun (w' : World) (hx : ∃ x : Later W5, w' = x.w) => (show w'.rangeAt W4.heap.size 0 (itR.cells zeroIt) from by obtain ⟨z, rfl⟩ := hx; exact below_range z.h hx5))
              have hsame : ∀ w : World, (Op.equalIn (9998 + 2) 32 (.agg (itR.cells zeroIt).toArray) (.agg #[.int .i64 0, .int .i64 0])).run Try.prog w = .ok true w := fun w => it_eq 9998 zeroIt zeroIt w
              have hguard := itGuard
              refine wp_region_later (by kernel_rfl) (by kernel_rfl) (Below.refl _ _) ?_
              repeat (first
                | go_big_quiet_skip
                | (go_big_quiet_want; first
                  | (refine quiet_load_mid 32 _ rfl W4.heap.size 0 rfl (itR.cells zeroIt) _ RX.out Try.underlying32 rfl (itOk.row zeroIt) ?_; simp only [Act.put, List.setIfInBounds_toArray, List.set_cons_succ, List.set_cons_zero]; go_big_quiet_on)
                  | (go_big_quiet_op; go_big_quiet_on)))
              refine wpQuiet_nil ?_
              rintro ⟨W6, hb6⟩
              dsimp only
              clear hsame hguard RX
              have hb36 := bthen' (bthen' hb4 hb5) hb6
              have HR6 := Lib.hid (below_range hb6 HR5.out)
              obtain ⟨m0, m1, m2⟩ := ac_parts HR6.out
              go_wp2_with (go_at_call 13; refine (KR.out _ (HV5.out.upd (Upd.ofBelow _ hb6)).lts).mono ?_; rintro e W7 ⟨v7, rfl, hb7, hO7⟩)
              go_meet
              exact drop_turned (by omega) (bthen' hW3.out hb36) (HS3.out.2.1.below hb36) hb7 hO7 HR6.out
      case rest =>
        clear HS3 hlow3 n0 n1 n2 hr3 hs3
        obtain ⟨G2, hG2, hS2, hr⟩ := hcut
        have HS2 := Lib.hid hS2
        obtain ⟨hW2, -, -, au2, cu2, rfl, hcu2⟩ := hS2
        have HR := Lib.hid hr
        have hbig : G2.length < 100000 := by omega
        obtain ⟨c, hc⟩ : ∃ c, c = decide (0 ≤ ixI a.id (its G2) 0) := ⟨_, rfl⟩
        obtain ⟨r, hr9⟩ : ∃ r, r = ixI a.id (its G2) 0 := ⟨_, rfl⟩
        have hcr : decide (0 ≤ r) = c := by rw [hc, hr9]
        have KF := Lib.hid (fun (W : World) (h : Reads itR W _ _) => find_any W (.slice au2 G2.length cu2) (its G2) h (by rw [its_length]; omega) a.id)
        rw [← hr9] at KF
        have KH := Lib.hid (show ∀ (W : World) (h : Qu w.heap.size W p m G2), Calls Try.prog 20 #[.pointer (some ⟨p, 0, none⟩), .int .i64 a.id] W fun e w' => e = .returned (.bool c) ∧ W = w' from by
          intro W h
          rw [hc]
          rcases in_or G2 a.id with ⟨i, g, y, hy, ey⟩ | hno
          · rw [← ey, ixI_at (its G2) 0 i y h.ids (its_at hy) rfl, decide_eq_true (by omega)]
            exact has_yes W _ p m G2 h i g y hy
          · rw [ixI_none (its G2) 0 hno, decide_eq_false (by omega)]
            exact has_no W _ p m G2 h a.id hno)
        clear hr hW2 hc hr9
        rcases G2 with _ | ⟨⟨g, x⟩, G2⟩
        · have HQ := Lib.hid HS2.out.2.1
          go_upto_region 27 with (first
            | (go_at_call 14; refine (head_empty _ _ p m HQ.out).mono ?_; rintro e W4 ⟨rfl, hb4⟩)
            | (refine wpList_store_mid rfl 32 _ _ rfl W4.heap.size 0 (itR.cells zeroIt).toArray rfl rfl (freshR_there itOk W4 zeroIt) (itOk.row' zeroIt) (itOk.one' zeroIt) ?_; show wpList _ _ _ _ _ (freshR itR W4 zeroIt); have hx5 := freshR_range itOk W4 zeroIt; have hb5 := freshR_below (R := itR) W4 zeroIt; generalize freshR itR W4 zeroIt = W5 at hx5 hb5 ⊢))
          have HS5 := Lib.hid ((HS2.out.below hb4).below hb5)
          have HR5 := Lib.hid (below_range hb5 (below_range hb4 HR.out))
          have d1 := fun (z : Later W5) => (ac_parts (below_range z.h HR5.out)).2.1
          refine Mix.wp_region_mix [([0, 1, 2, 3, 4, 5, 6, 7, 8, 9, 10, 11, 12, 13, 14, 15, 16, 18], 17), ([], 19), ([20, 21, 22, 23, 25, 26], 24), ([27, 28, 29, 30, 32], 31), ([], 33), ([34, 35, 36, 37, 38, 39, 41, 42, 43], 40), ([], 44)] [45, 46, 47] (fun w' => ∃ x : Later W5, w' = x.w) (by kernel_rfl) (by kernel_rfl) (Mix.later_drew W5) ?_
          have hbd : Below W5.heap.size W5 W5.drew := (Below.refl _ _).drew
          generalize W5.drew = W5d at hbd ⊢
          refine Mix.stages_cons ?_
          simp only [Mix.pickL, List.getElem?_cons_zero, List.getElem?_cons_succ]
          repeat (first
            | go_big_quiet_skip
            | (go_big_quiet_want; (go_big_quiet_op; go_big_quiet_on)))
          refine wpQuiet_nil ?_
          go_wp2_with (go_at_call 16; refine (all_any _ w.heap.size p m _ (HS5.out.2.1.below hbd) hbig).mono ?_; rintro e W6 ⟨v6, rfl, hb6, hO6⟩)
          refine Mix.onward_normal (bthen' hbd hb6) ?_
          clear d1
          have hb56 := bthen' hbd hb6
          have HO6 := Lib.hid (hO6.lts itOk)
          refine Mix.stages_cons ?_
          simp only [Mix.pickL, List.getElem?_cons_zero, List.getElem?_cons_succ]
          repeat (first
            | go_big_quiet_skip
            | (go_big_quiet_want; (go_big_quiet_op; go_big_quiet_on)))
          refine wpQuiet_nil ?_
          go_wp2_with (go_at_call 15; refine (same_any _ _ _ _ _ HO6.out (HS5.out.2.2.1.lts.below hb56) (by rw [its_length]; omega)).mono ?_; rintro e W7 ⟨rfl, hb7⟩)
          refine Mix.onward_normal hb7 ?_
          have hb57 := bthen' hb56 hb7
          have HS7 := Lib.hid (HS5.out.below hb57)
          have HR6 := Lib.hid (below_range hb57 HR5.out)
          have d1 := fun (z : Later W7) => (ac_parts (below_range z.h HR6.out)).2.1
          refine Mix.stages_cons ?_
          simp only [Mix.pickL, List.getElem?_cons_zero, List.getElem?_cons_succ]
          repeat (first
            | go_big_quiet_skip
            | (go_big_quiet_want; (go_big_quiet_op; go_big_quiet_on)))
          refine wpQuiet_nil ?_
          go_wp2_with (go_at_call 17; refine (len_any W7 w.heap.size p m _ HS7.out.2.1 (by omega)).mono ?_; rintro e w' ⟨rfl, rfl⟩)
          refine Mix.onward_normal (Below.refl _ _) ?_
          refine Mix.stages_cons ?_
          simp only [Mix.pickL, List.getElem?_cons_zero, List.getElem?_cons_succ]
          repeat (first
            | go_big_quiet_skip
            | (go_big_quiet_want; (go_big_quiet_op; go_big_quiet_on)))
          refine wpQuiet_nil ?_
          go_wp2_with (go_at_call 18; refine (cost_any W7 w.heap.size p m _ HS7.out.2.1).mono ?_; rintro e w' ⟨rfl, rfl⟩)
          refine Mix.onward_normal (Below.refl _ _) ?_
          refine Mix.stages_cons ?_
          simp only [Mix.pickL, List.getElem?_cons_zero, List.getElem?_cons_succ]
          repeat (first
            | go_big_quiet_skip
            | (go_big_quiet_want; (go_big_quiet_op; go_big_quiet_on)))
          refine wpQuiet_nil ?_
          go_wp2_with (go_at_call 19; refine (refCost_any W7 _ _ HS7.out.2.2.1.lts (by rw [its_length]; omega) HS7.out.2.1.good).mono ?_; rintro e w' ⟨rfl, rfl⟩)
          refine Mix.onward_normal (Below.refl _ _) ?_
          refine Mix.stages_cons ?_
          simp only [Mix.pickL, List.getElem?_cons_zero, List.getElem?_cons_succ]
          repeat (first
            | go_big_quiet_skip
            | (go_big_quiet_want; (go_big_quiet_op; go_big_quiet_on)))
          refine wpQuiet_nil ?_
          go_wp2_with (go_at_call 20; refine (KH.out _ HS7.out.2.1).mono ?_; rintro e w' ⟨rfl, rfl⟩)
          refine Mix.onward_normal (Below.refl _ _) ?_
          refine Mix.stages_cons ?_
          simp only [Mix.pickL, List.getElem?_cons_zero, List.getElem?_cons_succ]
          repeat (first
            | go_big_quiet_skip
            | (go_big_quiet_want; (go_big_quiet_op; go_big_quiet_on)))
          refine wpQuiet_nil ?_
          go_wp2_with (go_at_call 12; refine (KF.out _ HS7.out.2.2.1.lts).mono ?_; rintro e w' ⟨rfl, rfl⟩)
          refine Mix.onward_normal (Below.refl _ _) ?_
          refine Mix.stages_nil ?_
          simp only [Mix.pickL, List.getElem?_cons_zero, List.getElem?_cons_succ]
          repeat (first
            | go_big_quiet_skip
            | (go_big_quiet_want; (go_big_quiet_op; go_big_quiet_on)))
          refine wpQuiet_nil ?_
          have hc0 := hcr
          clear d1
          go_wp2_with fail
          go_roundw
          case rel => exact ⟨k + 1, _, by omega, hG2, by go_num, HS7.out⟩
          case measure => simp [intOf]; omega
        · have HQ := Lib.hid HS2.out.2.1
          obtain ⟨b2, off2, rfl, hb2F, hr2⟩ : ∃ b2 off2, au2 = some ⟨b2, off2, none⟩ ∧ b2 ∉ qF p m ((g, x) :: G2) ∧ wc.rangeAt b2 off2 (itR.cells x) := by
            rcases HS2.out.2.2.1 with ⟨h0, _⟩ | ⟨b2, off2, c2, hv, hbF, hr⟩
            · cases h0
            · simp only [Value.slice.injEq] at hv
              exact ⟨b2, off2, hv.1, hbF, by simpa using hr 0 x rfl⟩
          go_upto_region 27 with (first
            | (go_at_call 14; refine (head_some _ _ p m g x G2 HQ.out).mono ?_; rintro e W4 ⟨rfl, hb4⟩)
            | (refine wpList_store_mid rfl 32 _ _ rfl W4.heap.size 0 (itR.cells x).toArray rfl rfl (freshR_there itOk W4 x) (itOk.row' x) (itOk.one' x) ?_; show wpList _ _ _ _ _ (freshR itR W4 x); have hx5 := freshR_range itOk W4 x; have hb5 := freshR_below (R := itR) W4 x; generalize freshR itR W4 x = W5 at hx5 hb5 ⊢))
          have HS5 := Lib.hid ((HS2.out.below hb4).below hb5)
          have HR5 := Lib.hid (below_range hb5 (below_range hb4 HR.out))
          have d1 := fun (z : Later W5) => (ac_parts (below_range z.h HR5.out)).2.1
          have RX := Lib.hid (fun (w' : World) (hx : ∃ x : Later W5, w' = x.w) => (show w'.rangeAt W4.heap.size 0 (itR.cells x) from by obtain ⟨z, rfl⟩ := hx; exact below_range z.h hx5))
          have RW := Lib.hid (fun (w' : World) (hx : ∃ x : Later W5, w' = x.w) => (show w'.rangeAt b2 off2 (itR.cells x) from by obtain ⟨z, rfl⟩ := hx; exact below_range z.h (below_range hb5 (below_range hb4 hr2))))
          have hsame := fun w => it_eq 9998 x x w
          have hguard := itGuard
          refine Mix.wp_region_mix [([0, 1, 2, 3, 4, 5, 6, 7, 8, 9, 10, 11, 12, 13, 14, 15, 16, 18], 17), ([], 19), ([20, 21, 22, 23, 25, 26], 24), ([27, 28, 29, 30, 32], 31), ([], 33), ([34, 35, 36, 37, 38, 39, 41, 42, 43], 40), ([], 44)] [45, 46, 47] (fun w' => ∃ x : Later W5, w' = x.w) (by kernel_rfl) (by kernel_rfl) (Mix.later_drew W5) ?_
          have hbd : Below W5.heap.size W5 W5.drew := (Below.refl _ _).drew
          generalize W5.drew = W5d at hbd ⊢
          refine Mix.stages_cons ?_
          simp only [Mix.pickL, List.getElem?_cons_zero, List.getElem?_cons_succ]
          repeat (first
            | go_big_quiet_skip
            | (go_big_quiet_want; first
              | (refine quiet_load_mid 32 _ rfl W4.heap.size 0 rfl (itR.cells x) _ RX.out Try.underlying32 rfl (itOk.row x) ?_; simp only [Act.put, List.setIfInBounds_toArray, List.set_cons_succ, List.set_cons_zero]; go_big_quiet_on)
              | (refine quiet_load_mid 32 _ rfl b2 off2 rfl (itR.cells x) _ RW.out Try.underlying32 rfl (itOk.row x) ?_; simp only [Act.put, List.setIfInBounds_toArray, List.set_cons_succ, List.set_cons_zero]; go_big_quiet_on)
              | (go_big_quiet_op; go_big_quiet_on)))
          refine wpQuiet_nil ?_
          go_wp2_with (go_at_call 16; refine (all_any _ w.heap.size p m _ (HS5.out.2.1.below hbd) hbig).mono ?_; rintro e W6 ⟨v6, rfl, hb6, hO6⟩)
          refine Mix.onward_normal (bthen' hbd hb6) ?_
          clear d1
          have hb56 := bthen' hbd hb6
          have HO6 := Lib.hid (hO6.lts itOk)
          refine Mix.stages_cons ?_
          simp only [Mix.pickL, List.getElem?_cons_zero, List.getElem?_cons_succ]
          repeat (first
            | go_big_quiet_skip
            | (go_big_quiet_want; (go_big_quiet_op; go_big_quiet_on)))
          refine wpQuiet_nil ?_
          go_wp2_with (go_at_call 15; refine (same_any _ _ _ _ _ HO6.out (HS5.out.2.2.1.lts.below hb56) (by rw [its_length]; omega)).mono ?_; rintro e W7 ⟨rfl, hb7⟩)
          refine Mix.onward_normal hb7 ?_
          have hb57 := bthen' hb56 hb7
          have HS7 := Lib.hid (HS5.out.below hb57)
          have HR6 := Lib.hid (below_range hb57 HR5.out)
          have d1 := fun (z : Later W7) => (ac_parts (below_range z.h HR6.out)).2.1
          refine Mix.stages_cons ?_
          simp only [Mix.pickL, List.getElem?_cons_zero, List.getElem?_cons_succ]
          repeat (first
            | go_big_quiet_skip
            | (go_big_quiet_want; (go_big_quiet_op; go_big_quiet_on)))
          refine wpQuiet_nil ?_
          go_wp2_with (go_at_call 17; refine (len_any W7 w.heap.size p m _ HS7.out.2.1 (by omega)).mono ?_; rintro e w' ⟨rfl, rfl⟩)
          refine Mix.onward_normal (Below.refl _ _) ?_
          refine Mix.stages_cons ?_
          simp only [Mix.pickL, List.getElem?_cons_zero, List.getElem?_cons_succ]
          repeat (first
            | go_big_quiet_skip
            | (go_big_quiet_want; (go_big_quiet_op; go_big_quiet_on)))
          refine wpQuiet_nil ?_
          go_wp2_with (go_at_call 18; refine (cost_any W7 w.heap.size p m _ HS7.out.2.1).mono ?_; rintro e w' ⟨rfl, rfl⟩)
          refine Mix.onward_normal (Below.refl _ _) ?_
          refine Mix.stages_cons ?_
          simp only [Mix.pickL, List.getElem?_cons_zero, List.getElem?_cons_succ]
          repeat (first
            | go_big_quiet_skip
            | (go_big_quiet_want; (go_big_quiet_op; go_big_quiet_on)))
          refine wpQuiet_nil ?_
          go_wp2_with (go_at_call 19; refine (refCost_any W7 _ _ HS7.out.2.2.1.lts (by rw [its_length]; omega) HS7.out.2.1.good).mono ?_; rintro e w' ⟨rfl, rfl⟩)
          refine Mix.onward_normal (Below.refl _ _) ?_
          refine Mix.stages_cons ?_
          simp only [Mix.pickL, List.getElem?_cons_zero, List.getElem?_cons_succ]
          repeat (first
            | go_big_quiet_skip
            | (go_big_quiet_want; (go_big_quiet_op; go_big_quiet_on)))
          refine wpQuiet_nil ?_
          go_wp2_with (go_at_call 20; refine (KH.out _ HS7.out.2.1).mono ?_; rintro e w' ⟨rfl, rfl⟩)
          refine Mix.onward_normal (Below.refl _ _) ?_
          refine Mix.stages_cons ?_
          simp only [Mix.pickL, List.getElem?_cons_zero, List.getElem?_cons_succ]
          repeat (first
            | go_big_quiet_skip
            | (go_big_quiet_want; (go_big_quiet_op; go_big_quiet_on)))
          refine wpQuiet_nil ?_
          go_wp2_with (go_at_call 12; refine (KF.out _ HS7.out.2.2.1.lts).mono ?_; rintro e w' ⟨rfl, rfl⟩)
          refine Mix.onward_normal (Below.refl _ _) ?_
          refine Mix.stages_nil ?_
          simp only [Mix.pickL, List.getElem?_cons_zero, List.getElem?_cons_succ]
          repeat (first
            | go_big_quiet_skip
            | (go_big_quiet_want; (go_big_quiet_op; go_big_quiet_on)))
          refine wpQuiet_nil ?_
          have hc0 := hcr
          clear d1
          go_wp2_with fail
          go_roundw
          case rel => exact ⟨k + 1, _, by omega, hG2, by go_num, HS7.out⟩
          case measure => simp [intOf]; omega
    · obtain rfl : k = A.length := by omega
      go_wp2_with (go_at_call 5; refine (live14_any _).mono ?_; rintro e W9 ⟨rfl, hb9⟩)
      go_ret
      exact ⟨rfl, bthen' hW hb9⟩

theorem fifoActs_of (w : World) (v : Value) (A : List Ac) (hv : Reads acR w v A) : Calls Try.prog 3 #[v] w fun e w' => e = .returned (.bool true) ∧ Below w.heap.size w w' := by
  by_cases h1 : 200 < A.length
  · exact fifoActs_far w v A hv h1
  · exact fifoActs_yes w v A hv (by omega)

end Go.Proofs.Ytegkjbndnonneaa
