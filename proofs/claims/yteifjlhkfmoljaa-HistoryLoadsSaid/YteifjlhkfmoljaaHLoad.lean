/- A history's table loaded of rows. -/
import Derived.Test.YteifjlhkfmoljaaHRight
import Derived.Test.YteifjlhkfmoljaaTree
set_option linter.unusedVariables false
namespace Go.Proofs.Yteifjlhkfmoljaa
open Go.RowKit
open HistLaw

def HLoaded (w : World) (room : Int) (L : List Rw) (e : Ending) (w' : World) : Prop :=
  Below w.heap.size w w' ∧ ((rightL room L = false ∧ e = .returned (.tuple #[.pointer none, .bool false])) ∨ (rightL room L = true ∧ ∃ h t c m E, e = .returned (.tuple #[.pointer (some ⟨h, 0, none⟩), .bool true]) ∧ HTab w.heap.size w' h t room c m E ∧ (rws E).reverse = L))
theorem rowRow (p : Rw) : (Try.prog.info? 61).map (·.size) = some (rowC p).toArray.size := by rw [List.size_toArray, rowC_length]; kernel_rfl
theorem rowOne (p : Rw) : (rowC p).toArray.all (·.oneCell') = true := by
  rw [List.all_toArray]
  exact List.all_eq_true.2 (fun v hv => rowOk.one p v hv)

theorem wl_build2g {ops : Array Oper} {rest : List Oper} {o : Oper} {a : Act} {w : World} {Q : Exit → Act → World → Prop} (hw : Region.wanted o (yielded ops a.tmps) = true) (t : TypeId) (parts : Array (Nat × Operand)) (ho : o.op = .build t parts)
    (ps : List (Nat × Value)) (hp : (parts.map fun (i, x) => (i, a.eval x)).toList = ps) (cells : Array Value) (hf : Try.prog.built t ps = some cells)
    (h : wpList Try.prog ops Q rest (a.put o.dst (.agg cells)) w) : wpList Try.prog ops Q (o :: rest) a w :=
  BigFrame.wpList_want hw fun _ hK => by
    unfold Oper.wp execOp
    simp only [ho, Sem.run_bind, run_build w t _ _ (hp ▸ hf), Result.andThen_ok]
    exact hK _ _ h
theorem hist_guard2 (x y : Operand) (u z : Hs) (w : World) : (eqGuard BinOp.eql 49 x y (.agg (vh u).toArray) (.agg (vh z).toArray)).run Try.prog w = .ok () w := by
  have hg := histGuard
  simp [eqGuard, go_sem, hg]
theorem hist_eql2 (u z : Hs) (w : World) : (binOp BinOp.eql 49 (.agg (vh u).toArray) (.agg (vh z).toArray)).run Try.prog w = .ok (.bool (decide (u.1 = z.1))) w := by
  have hg := run_equalIn_hist 9998 u.1 z.1 w u.2 z.2
  have h2 : (Op.equal 49 (.agg (hcells u.1)) (.agg (hcells z.1))).run Try.prog w = .ok (decide (u.1 = z.1)) w := hg
  show (binOp BinOp.eql 49 (.agg (hcells u.1)) (.agg (hcells z.1))).run Try.prog w = _
  simp [binOp, go_sem, h2]
theorem built_no : Try.prog.built 49 [] = some (vh noH).toArray := by kernel_rfl
theorem row_tail {w : World} {b : Nat} {p : Rw} (h : w.rangeAt b 0 (rowC p)) : w.rangeAt b 1 (vh p.2) := fun j v hv => by have := h (1 + j) v (by rw [show rowC p = .string p.1 :: vh p.2 from rfl, Nat.add_comm]; exact hv); simpa using this
theorem rws_key {E : List (Ent Hs)} {L : List Rw} {k : Nat} (hE : rws E = (L.take k).reverse) {x : Ent Hs} (hx : x ∈ E) : ∃ q ∈ L.take k, q.1 = x.key :=
  ⟨(x.key, x.v), by rw [← List.mem_reverse, ← hE]; exact List.mem_map.2 ⟨x, hx, rfl⟩, rfl⟩

set_option maxRecDepth 100000 in
set_option maxHeartbeats 2000000 in
theorem hload_any (w : World) (room : Int) (lv : Value) (L : List Rw) (hv : Reads rowR w lv L) (hbig : L.length ≤ 1000) :
    Calls Try.prog 13 #[.int .i64 room, lv] w (HLoaded w room L) := by
  obtain ⟨al, cl, rfl⟩ := hv.form
  have HV := Lib.hid hv
  clear hv
  by_cases h1 : room < 1
  · have HR := Lib.hid (rightL_room (L := L) (.inl h1))
    have KN := Lib.hid (hnew_none w room h1)
    go_enter Try.func13, Try.ntmps13
    go_wp2_with (go_at_call 7; refine KN.out.mono ?_; rintro e w' ⟨rfl, rfl⟩)
    go_ret2
    exact ⟨Below.refl _ _, .inl ⟨HR.out, rfl⟩⟩
  · have h1' : 1 ≤ room := by omega
    have KN := Lib.hid (hnew_any w room h1')
    by_cases h2 : room < (L.length : Int)
    · have HR := Lib.hid (rightL_room (L := L) (.inr h2))
      go_enter Try.func13, Try.ntmps13
      go_wp2_with (go_at_call 7; refine KN.out.mono ?_; rintro e W1 ⟨h, t, c, m, rfl, hb1, hT1⟩)
      go_ret2
      exact ⟨hb1, .inl ⟨HR.out, rfl⟩⟩
    · go_enter Try.func13, Try.ntmps13
      go_upto_block 0 with (go_at_call 7; refine KN.out.mono ?_; rintro e W1 ⟨h, t, c, m, rfl, hb1, hT1⟩)
      go_wp2_with fail
      go_loopw [23] (fun i wr => ∃ (k : Nat) (E : List (Ent Hs)), k ≤ L.length ∧ E.length ≤ k ∧ i = .int .i64 k ∧ Below w.heap.size w wr ∧ HTab w.heap.size wr h t room c m E ∧ rws E = (L.take k).reverse ∧ okRows (L.take k)) (fun i _ => L.length - (intOf i).toNat)
      case atStart => exact ⟨0, [], by omega, by simp, rfl, hb1, hT1, rfl, okRows_nil⟩
      case round =>
        clear hb1 hT1 KN
        obtain ⟨k, E, hk, hEk, rfl, hW, hH, hE, hO⟩ := hrel
        have HO := Lib.hid hO
        have HW := Lib.hid hW
        have HH := Lib.hid hH
        have HE := Lib.hid hE
        have hWs := hW.size
        clear hO hH hE hW
        by_cases hlt : k < L.length
        · obtain ⟨p, hp⟩ : ∃ p, L[k]? = some p := ⟨_, List.getElem?_eq_getElem hlt⟩
          obtain ⟨b, off, rfl, hr⟩ := (HV.out.below HW.out).at hp
          have HP := Lib.hid hp
          have HR := Lib.hid hr
          clear hp hr
          obtain ⟨r8, hr8⟩ : ∃ r8, r8 = wr.heap.size := ⟨_, rfl⟩
          go_upto_region 7 with (first
            | (refine wpList_load_mid rfl 61 _ rfl b (off + k * rowR.n) rfl (rowR.cells p) _ HR.out Try.underlying61 rfl (rowOk.row p) ?_)
            | (refine wpList_store_row rfl 61 _ _ rfl wr.heap.size (rowC p).toArray rfl rfl 61 (rowC (⟨#[]⟩, noH)).toArray (heap_alloc_new _ _) (rowRow p) (by simp only [List.size_toArray, rowC_length]) (rowOne p) ?_))
          show Code.wp _ _ _ _ ((wr.alloc (.cells (rowC (⟨#[]⟩, noH)).toArray 61)).setRow wr.heap.size (rowC p).toArray)
          have hn : ((wr.alloc (.cells (rowC (⟨#[]⟩, noH)).toArray 61)).setRow wr.heap.size (rowC p).toArray).heap[wr.heap.size]? = some (.cells (rowC p).toArray 61 (0, 0)) := setRow_heap _ _ _ _ _ _ (heap_alloc_new _ _)
          have hb1 : Below wr.heap.size wr ((wr.alloc (.cells (rowC (⟨#[]⟩, noH)).toArray 61)).setRow wr.heap.size (rowC p).toArray) := below_row ((Below.refl _ _).alloc (Nat.le_refl _) _) (Nat.le_refl _) _
          generalize (wr.alloc (.cells (rowC (⟨#[]⟩, noH)).toArray 61)).setRow wr.heap.size (rowC p).toArray = W2 at hn hb1 ⊢
          rw [← hr8] at hn ⊢
          have hr8' : wr.heap.size ≤ r8 := by omega
          clear hr8
          have HH2 := Lib.hid (HH.out.below hb1)
          have HB2 := Lib.hid (bthen' HW.out hb1)
          have r1 : W2.rangeAt r8 0 (rowC p) := fun j v hv => by
            rw [cell_of_row W2 r8 (0 + j) _ _ (0, 0) hn]
            simpa using hv
          have k0 : W2.cell? ⟨r8, 0, none⟩ = some (.string p.1) := by simpa using r1 0 _ rfl
          have rh : W2.rangeAt r8 1 (vh p.2) := fun j v hv => by have := r1 (1 + j) v (by rw [show rowC p = .string p.1 :: vh p.2 from rfl, Nat.add_comm]; exact hv); simpa using this
          have RH := Lib.hid rh
          have RC := Lib.hid r1
          have K0 := Lib.hid k0
          have c0 := HH2.out.ptr0
          have hne : Nonempty (Mix.InS (fun z => Below W2.heap.size W2 z)) := ⟨⟨W2, Below.refl _ _⟩⟩
          simp only [Act.put]
          have d0 := fun (z : Mix.InS (fun z => Below W2.heap.size W2 z)) => below_cell z.h k0
          have d1 := fun (z : Mix.InS (fun z => Below W2.heap.size W2 z)) => below_cell z.h c0
          clear hn r1 rh k0 c0 hb1
          have hfit : (E.length : Int) ≤ room := HH2.out.fits
          rcases key_or E p.1 with ⟨i, x, hx, hxp⟩ | hno
          · obtain ⟨q, hq, hqx⟩ := rws_key HE.out (List.mem_of_getElem? hx)
            have HF := Lib.hid (rightL_not (room := room) HP.out HO.out (.inr ⟨q, hq, hqx.trans hxp⟩))
            have KP := Lib.hid (fun (W : World) (hT : TabH w.heap.size W t room c m E) => (show Calls Try.prog 29 #[.pointer (some ⟨t, 0, none⟩), .string p.1] W fun e w' => e = .returned (.tuple #[hV x.v, .bool true]) ∧ Below W.heap.size W w' from by rw [← hxp]; exact peek_yes W _ t room c m E hT i x hx))
            clear hq hqx hx
            refine Mix.wp_region_tree (.two [0, 1, 2, 3, 4, 5] 6 (.op [7, 8, 9] 10 (.op [] 11 (.fin [12]))) 10 (.op [] 6 (.op [7, 8, 9] 11 (.fin [12])))) (fun w' => ∃ x : Mix.InS (fun z => Below W2.heap.size W2 z), w' = x.w) (by kernel_rfl) (by kernel_rfl) (Mix.inS_mk (Below.refl _ _).drew) ?_
            have hb3 : Below W2.heap.size W2 W2.drew := (Below.refl _ _).drew
            generalize W2.drew = W3 at hb3 ⊢
            refine Mix.tree_two ?_
            simp only [Mix.pickL, List.getElem?_cons_zero, List.getElem?_cons_succ]
            repeat (first
              | go_big_quiet_skip
              | (go_big_quiet_want; (go_big_quiet_op; go_big_quiet_on)))
            refine wpQuiet_nil ?_
            refine ⟨?_, ?_⟩
            · go_wp2_with (go_at_call 29; refine (KP.out W3 (HH2.out.below hb3).tab).mono ?_; rintro e W4 ⟨rfl, hb4⟩)
              have hb34 := bthen' hb3 hb4
              refine Mix.onward_in hb34 ?_
              refine Mix.tree_op ?_
              simp only [Mix.pickL, List.getElem?_cons_zero, List.getElem?_cons_succ]
              repeat (first
                | go_big_quiet_skip
                | (go_big_quiet_want; (go_big_quiet_op; go_big_quiet_on)))
              refine wpQuiet_nil ?_
              go_wp2_with fail
              refine Mix.onward_in (hb34.alloc hb34.size _) ?_
              refine Mix.tree_op ?_
              simp only [Mix.pickL, List.getElem?_cons_zero, List.getElem?_cons_succ]
              repeat (first
                | go_big_quiet_skip
                | (go_big_quiet_want; (go_big_quiet_op; go_big_quiet_on)))
              refine wpQuiet_nil ?_
              go_wp2_with (refine wpList_store_row rfl 49 _ _ rfl W4.heap.size _ rfl rfl 49 (vh noH).toArray (heap_alloc_new _ _) (vhRow' _) (by simp only [List.size_toArray, vh_length]) (vhOne _) ?_)
              have hb5 := below_row (hb34.alloc hb34.size (.cells (vh noH).toArray 49)) hb34.size (vh x.v).toArray
              refine Mix.onward_in (W' := (W4.alloc (.cells (vh noH).toArray 49)).setRow W4.heap.size (vh x.v).toArray) hb5 ?_
              refine Mix.tree_fin ?_
              (try simp only [Act.put])
              simp only [Mix.pickL, List.getElem?_cons_zero, List.getElem?_cons_succ]
              repeat (first
                | go_big_quiet_skip
                | (go_big_quiet_want; (go_big_quiet_op; go_big_quiet_on)))
              refine wpQuiet_nil ?_
              have HB5 := Lib.hid hb5
              have hH5 := HH2.out.below hb5
              generalize (W4.alloc (.cells (vh noH).toArray 49)).setRow W4.heap.size (vh x.v).toArray = W5 at hb5 HB5 hH5 ⊢
              generalize W4.heap.size = g9
              have HH5 := Lib.hid hH5
              clear d0 d1 hne hb5 hH5 hb34 hb3
              go_wp2_with fail
              go_ret2
              exact ⟨bthen' HB2.out HB5.out, .inl ⟨HF.out, rfl⟩⟩
            · go_wp2_with fail
              have hbA := hb3.alloc hb3.size (.cells (vh noH).toArray 49)
              have hnA := heap_alloc_new W3 (.cells (vh noH).toArray 49)
              refine Mix.onward_in hbA ?_
              show Mix.Tree _ _ _ _ _ _ (W3.alloc (.cells (vh noH).toArray 49))
              generalize W3.alloc (.cells (vh noH).toArray 49) = W3b at hbA hnA ⊢
              have hg9 := hb3.size
              generalize W3.heap.size = g9 at hnA hg9 ⊢
              refine Mix.tree_op ?_
              simp only [Mix.pickL, List.getElem?_cons_zero, List.getElem?_cons_succ]
              repeat (first
                | go_big_quiet_skip
                | (go_big_quiet_want; (go_big_quiet_op; go_big_quiet_on)))
              refine wpQuiet_nil ?_
              go_wp2_with (go_at_call 29; refine (KP.out W3b (HH2.out.below hbA).tab).mono ?_; rintro e W4 ⟨rfl, hb4⟩)
              have hnB := kept hb4 hnA
              have hb34 := bthen' hbA hb4
              refine Mix.onward_in hb34 ?_
              refine Mix.tree_op ?_
              simp only [Mix.pickL, List.getElem?_cons_zero, List.getElem?_cons_succ]
              repeat (first
                | go_big_quiet_skip
                | (go_big_quiet_want; (go_big_quiet_op; go_big_quiet_on)))
              refine wpQuiet_nil ?_
              go_wp2_with (refine wpList_store_row rfl 49 _ _ rfl g9 _ rfl rfl 49 (vh noH).toArray hnB (vhRow' _) (by simp only [List.size_toArray, vh_length]) (vhOne _) ?_)
              have hb5 := below_row hb34 hg9 (vh x.v).toArray
              refine Mix.onward_in hb5 ?_
              refine Mix.tree_fin ?_
              (try simp only [Act.put])
              simp only [Mix.pickL, List.getElem?_cons_zero, List.getElem?_cons_succ]
              repeat (first
                | go_big_quiet_skip
                | (go_big_quiet_want; (go_big_quiet_op; go_big_quiet_on)))
              refine wpQuiet_nil ?_
              have HB5 := Lib.hid hb5
              have hH5 := HH2.out.below hb5
              generalize W4.setRow g9 (vh x.v).toArray = W5 at hb5 HB5 hH5 ⊢
              have HH5 := Lib.hid hH5
              clear d0 d1 hne hb5 hH5 hb34 hb3 hnA hnB hbA
              go_wp2_with fail
              go_ret2
              exact ⟨bthen' HB2.out HB5.out, .inl ⟨HF.out, rfl⟩⟩
          · have hpk : Hid (∀ q ∈ rws E, q.1 ≠ p.1) := Lib.hid (fun q hq => by obtain ⟨y, hy, rfl⟩ := List.mem_map.1 hq; exact hno y hy)
            have KP := Lib.hid (fun (W : World) (hT : TabH w.heap.size W t room c m E) => peek_no W _ t room c m E hT p.1 hno)
            have hmem : Hid (∀ q ∈ L.take k, q.1 ≠ p.1) := Lib.hid (fun q hq => hpk.out q (by rw [HE.out]; exact List.mem_reverse.2 hq))
            clear hno
            refine Mix.wp_region_tree (.two [0, 1, 2, 3, 4, 5] 6 (.op [7, 8, 9] 10 (.op [] 11 (.fin [12]))) 10 (.op [] 6 (.op [7, 8, 9] 11 (.fin [12])))) (fun w' => ∃ x : Mix.InS (fun z => Below W2.heap.size W2 z), w' = x.w) (by kernel_rfl) (by kernel_rfl) (Mix.inS_mk (Below.refl _ _).drew) ?_
            have hb3 : Below W2.heap.size W2 W2.drew := (Below.refl _ _).drew
            generalize W2.drew = W3 at hb3 ⊢
            refine Mix.tree_two ?_
            simp only [Mix.pickL, List.getElem?_cons_zero, List.getElem?_cons_succ]
            repeat (first
              | go_big_quiet_skip
              | (go_big_quiet_want; (go_big_quiet_op; go_big_quiet_on)))
            refine wpQuiet_nil ?_
            refine ⟨?_, ?_⟩
            · go_wp2_with (go_at_call 29; refine (KP.out W3 (HH2.out.below hb3).tab).mono ?_; rintro e W4 ⟨rfl, hb4⟩)
              have hb34 := bthen' hb3 hb4
              refine Mix.onward_in hb34 ?_
              refine Mix.tree_op ?_
              simp only [Mix.pickL, List.getElem?_cons_zero, List.getElem?_cons_succ]
              repeat (first
                | go_big_quiet_skip
                | (go_big_quiet_want; (go_big_quiet_op; go_big_quiet_on)))
              refine wpQuiet_nil ?_
              go_wp2_with fail
              refine Mix.onward_in (hb34.alloc hb34.size _) ?_
              refine Mix.tree_op ?_
              simp only [Mix.pickL, List.getElem?_cons_zero, List.getElem?_cons_succ]
              repeat (first
                | go_big_quiet_skip
                | (go_big_quiet_want; (go_big_quiet_op; go_big_quiet_on)))
              refine wpQuiet_nil ?_
              go_wp2_with (refine wpList_store_row rfl 49 _ _ rfl W4.heap.size _ rfl rfl 49 (vh noH).toArray (heap_alloc_new _ _) (vhRow' _) (by simp only [List.size_toArray, vh_length]) (vhOne _) ?_)
              have hb5 := below_row (hb34.alloc hb34.size (.cells (vh noH).toArray 49)) hb34.size (vh noH).toArray
              refine Mix.onward_in (W' := (W4.alloc (.cells (vh noH).toArray 49)).setRow W4.heap.size (vh noH).toArray) hb5 ?_
              refine Mix.tree_fin ?_
              (try simp only [Act.put])
              simp only [Mix.pickL, List.getElem?_cons_zero, List.getElem?_cons_succ]
              repeat (first
                | go_big_quiet_skip
                | (go_big_quiet_want; (go_big_quiet_op; go_big_quiet_on)))
              refine wpQuiet_nil ?_
              have HB5 := Lib.hid hb5
              have hH5 := HH2.out.below hb5
              generalize (W4.alloc (.cells (vh noH).toArray 49)).setRow W4.heap.size (vh noH).toArray = W5 at hb5 HB5 hH5 ⊢
              generalize W4.heap.size = g9
              have HH5 := Lib.hid hH5
              clear d0 d1 hne hb5 hH5 hb34 hb3
              cases hrb : rightB p.2.1 with
              | false =>
                have HF := Lib.hid (rightL_not (room := room) HP.out HO.out (.inl (okRow_no hrb)))
                have KR := fun W => right_vh p.2 W
                rw [hrb] at KR
                have KR := Lib.hid KR
                clear hrb
                go_wp2_with (first
                  | (refine wl_load_mid rfl 49 _ rfl r8 1 rfl (vh p.2) _ (below_range HB5.out RH.out) histU rfl (vhRow p.2) ?_)
                  | (go_at_call 30; refine (KR.out W5).mono ?_; rintro e W6 ⟨rfl, hb6⟩))
                go_ret2
                exact ⟨bthen' HB2.out (bthen' HB5.out hb6), .inl ⟨HF.out, rfl⟩⟩
              | true =>
                have KR := fun W => right_vh p.2 W
                rw [hrb] at KR
                have KR := Lib.hid KR
                have hq3 := fun W => hist_guard2 (.tmp 46) (.tmp 47) p.2 noH W
                by_cases hz : p.2.1 = noH.1
                · have HF := Lib.hid (rightL_not (room := room) HP.out HO.out (.inl (okRow_zero ((tw_zero hrb).2 hz))))
                  have hq4 := fun W => hist_eql2 p.2 noH W
                  rw [decide_eq_true hz] at hq4
                  clear hrb hz
                  go_wp2_with (first
                    | (refine wl_load_mid rfl 49 _ rfl r8 1 rfl (vh p.2) _ (below_range HB5.out RH.out) histU rfl (vhRow p.2) ?_)
                    | (refine wl_load_mid rfl 49 _ rfl r8 1 rfl (vh p.2) _ (below_range (bthen' HB5.out hb6) RH.out) histU rfl (vhRow p.2) ?_)
                    | (refine wl_build2g rfl 49 _ rfl [] (by kernel_rfl) (vh noH).toArray built_no ?_)
                    | (go_at_call 30; refine (KR.out W5).mono ?_; rintro e W6 ⟨rfl, hb6⟩))
                  go_ret2
                  exact ⟨bthen' HB2.out (bthen' HB5.out hb6), .inl ⟨HF.out, rfl⟩⟩
                · have hok := Lib.hid (okRow_yes hrb (fun e => hz ((tw_zero hrb).1 e)))
                  have hq4 := fun W => hist_eql2 p.2 noH W
                  rw [decide_eq_false hz] at hq4
                  clear hrb hz
                  go_upto_region 10 with (first
                    | (refine wl_load_mid rfl 49 _ rfl r8 1 rfl (vh p.2) _ (below_range HB5.out RH.out) histU rfl (vhRow p.2) ?_)
                    | (refine wl_load_mid rfl 49 _ rfl r8 1 rfl (vh p.2) _ (below_range (bthen' HB5.out hb6) RH.out) histU rfl (vhRow p.2) ?_)
                    | (refine wl_build2g rfl 49 _ rfl [] (by kernel_rfl) (vh noH).toArray built_no ?_)
                    | (go_at_call 30; refine (KR.out W5).mono ?_; rintro e W6 ⟨rfl, hb6⟩))
                  have HB6 := Lib.hid (bthen' HB5.out hb6)
                  clear hq3 hq4 hb6
                  have hne : Nonempty (Mix.InS (fun z => z.rangeAt r8 0 (rowC p) ∧ z.heap[h]? = some (.cells #[.pointer (some ⟨t, 0, none⟩)] 51 (0, 0)))) := ⟨⟨W6, below_range HB6.out RC.out, (HH2.out.below HB6.out).box⟩⟩
                  have d0 := fun (z : Mix.InS (fun z => z.rangeAt r8 0 (rowC p) ∧ z.heap[h]? = some (.cells #[.pointer (some ⟨t, 0, none⟩)] 51 (0, 0)))) => (show z.w.cell? ⟨r8, 0, none⟩ = some (.string p.1) from by simpa using z.h.1 0 _ rfl)
                  have d1 := fun (z : Mix.InS (fun z => z.rangeAt r8 0 (rowC p) ∧ z.heap[h]? = some (.cells #[.pointer (some ⟨t, 0, none⟩)] 51 (0, 0)))) => ptr_of z.h.2
                  have RT := Lib.hid (fun (w' : World) (hx : ∃ x : Mix.InS (fun z => z.rangeAt r8 0 (rowC p) ∧ z.heap[h]? = some (.cells #[.pointer (some ⟨t, 0, none⟩)] 51 (0, 0))), w' = x.w) => (show w'.rangeAt r8 1 (vh p.2) from by obtain ⟨z, rfl⟩ := hx; exact row_tail z.h.1))
                  refine Mix.wp_region_mix [([0, 1, 2, 3, 4, 5, 6, 7], 8)] [] (fun w' => ∃ x : Mix.InS (fun z => z.rangeAt r8 0 (rowC p) ∧ z.heap[h]? = some (.cells #[.pointer (some ⟨t, 0, none⟩)] 51 (0, 0))), w' = x.w) (by kernel_rfl) (by kernel_rfl) (Mix.inS_mk ⟨below_range (HB6.out.drew) RC.out, (HH2.out.below HB6.out.drew).box⟩) ?_
                  have hb7 : Below W2.heap.size W2 W6.drew := HB6.out.drew
                  generalize W6.drew = W7 at hb7 ⊢
                  refine Mix.stages_cons ?_
                  simp only [Mix.pickL, List.getElem?_cons_zero, List.getElem?_cons_succ]
                  repeat (first
                    | go_big_quiet_skip
                    | (go_big_quiet_want; first
                      | (refine quiet_load_mid 49 _ rfl r8 1 rfl (vh p.2) _ RT.out histU rfl (vhRow p.2) ?_; simp only [Act.put, List.setIfInBounds_toArray, List.set_cons_succ, List.set_cons_zero]; go_big_quiet_on)
                      | (go_big_quiet_op; go_big_quiet_on)))
                  refine wpQuiet_nil ?_
                  have HH7 := Lib.hid (HH2.out.below hb7)
                  have hs7 := hb7.size
                  have hs2 := HB2.out.size
                  go_wp2_with (go_at_call 17; refine (put_any W7 w.heap.size t room c m E HH7.out.tab (by omega) HH7.out.fits h1' p.1 p.2 (by omega)).mono ?_; rintro e W8 ⟨s8, b8, E8, rfl, hu8, hT8, hl8, hf8, hr8⟩)
                  have hbox := hu8.heap HH7.out.out HH7.out.box
                  have hr80 : r8 ∉ tF TE t c m E := fun hin => by have := (HH.out.tab.low _ hin).2; omega
                  refine Mix.onward_in ⟨hu8.range hr80 (below_range hb7 RC.out), hbox⟩ ?_
                  refine Mix.stages_nil ?_
                  simp only [Mix.pickL]
                  refine wpQuiet_nil ?_
                  have hB8 := hu8.toBelow (bthen' HB2.out hb7) (by omega) (fun i hi => (HH7.out.tab.low i hi).1)
                  have hrw : rws E8 = (L.take (k + 1)).reverse := by
                    rw [hr8]
                    unfold ahead
                    rw [oth_none hpk.out, HE.out, ← take_snoc HP.out, List.reverse_append, List.take_of_length_le]
                    · rfl
                    · simp; omega
                  have HRW := Lib.hid hrw
                  clear d0 d1 hne hr8 hu8 hrw hr80
                  go_wp2_with fail
                  go_roundw
                  case rel => exact ⟨k + 1, E8, by omega, by omega, by go_num, hB8, ⟨hbox, hT8, HH7.out.low, hf8⟩, HRW.out, by rw [← take_snoc HP.out]; exact okRows_snoc.2 ⟨HO.out, hok.out, hmem.out⟩⟩
                  case measure => simp [intOf]; omega
            · go_wp2_with fail
              have hbA := hb3.alloc hb3.size (.cells (vh noH).toArray 49)
              have hnA := heap_alloc_new W3 (.cells (vh noH).toArray 49)
              refine Mix.onward_in hbA ?_
              show Mix.Tree _ _ _ _ _ _ (W3.alloc (.cells (vh noH).toArray 49))
              generalize W3.alloc (.cells (vh noH).toArray 49) = W3b at hbA hnA ⊢
              have hg9 := hb3.size
              generalize W3.heap.size = g9 at hnA hg9 ⊢
              refine Mix.tree_op ?_
              simp only [Mix.pickL, List.getElem?_cons_zero, List.getElem?_cons_succ]
              repeat (first
                | go_big_quiet_skip
                | (go_big_quiet_want; (go_big_quiet_op; go_big_quiet_on)))
              refine wpQuiet_nil ?_
              go_wp2_with (go_at_call 29; refine (KP.out W3b (HH2.out.below hbA).tab).mono ?_; rintro e W4 ⟨rfl, hb4⟩)
              have hnB := kept hb4 hnA
              have hb34 := bthen' hbA hb4
              refine Mix.onward_in hb34 ?_
              refine Mix.tree_op ?_
              simp only [Mix.pickL, List.getElem?_cons_zero, List.getElem?_cons_succ]
              repeat (first
                | go_big_quiet_skip
                | (go_big_quiet_want; (go_big_quiet_op; go_big_quiet_on)))
              refine wpQuiet_nil ?_
              go_wp2_with (refine wpList_store_row rfl 49 _ _ rfl g9 _ rfl rfl 49 (vh noH).toArray hnB (vhRow' _) (by simp only [List.size_toArray, vh_length]) (vhOne _) ?_)
              have hb5 := below_row hb34 hg9 (vh noH).toArray
              refine Mix.onward_in hb5 ?_
              refine Mix.tree_fin ?_
              (try simp only [Act.put])
              simp only [Mix.pickL, List.getElem?_cons_zero, List.getElem?_cons_succ]
              repeat (first
                | go_big_quiet_skip
                | (go_big_quiet_want; (go_big_quiet_op; go_big_quiet_on)))
              refine wpQuiet_nil ?_
              have HB5 := Lib.hid hb5
              have hH5 := HH2.out.below hb5
              generalize W4.setRow g9 (vh noH).toArray = W5 at hb5 HB5 hH5 ⊢
              have HH5 := Lib.hid hH5
              clear d0 d1 hne hb5 hH5 hb34 hb3 hnA hnB hbA
              cases hrb : rightB p.2.1 with
              | false =>
                have HF := Lib.hid (rightL_not (room := room) HP.out HO.out (.inl (okRow_no hrb)))
                have KR := fun W => right_vh p.2 W
                rw [hrb] at KR
                have KR := Lib.hid KR
                clear hrb
                go_wp2_with (first
                  | (refine wl_load_mid rfl 49 _ rfl r8 1 rfl (vh p.2) _ (below_range HB5.out RH.out) histU rfl (vhRow p.2) ?_)
                  | (go_at_call 30; refine (KR.out W5).mono ?_; rintro e W6 ⟨rfl, hb6⟩))
                go_ret2
                exact ⟨bthen' HB2.out (bthen' HB5.out hb6), .inl ⟨HF.out, rfl⟩⟩
              | true =>
                have KR := fun W => right_vh p.2 W
                rw [hrb] at KR
                have KR := Lib.hid KR
                have hq3 := fun W => hist_guard2 (.tmp 46) (.tmp 47) p.2 noH W
                by_cases hz : p.2.1 = noH.1
                · have HF := Lib.hid (rightL_not (room := room) HP.out HO.out (.inl (okRow_zero ((tw_zero hrb).2 hz))))
                  have hq4 := fun W => hist_eql2 p.2 noH W
                  rw [decide_eq_true hz] at hq4
                  clear hrb hz
                  go_wp2_with (first
                    | (refine wl_load_mid rfl 49 _ rfl r8 1 rfl (vh p.2) _ (below_range HB5.out RH.out) histU rfl (vhRow p.2) ?_)
                    | (refine wl_load_mid rfl 49 _ rfl r8 1 rfl (vh p.2) _ (below_range (bthen' HB5.out hb6) RH.out) histU rfl (vhRow p.2) ?_)
                    | (refine wl_build2g rfl 49 _ rfl [] (by kernel_rfl) (vh noH).toArray built_no ?_)
                    | (go_at_call 30; refine (KR.out W5).mono ?_; rintro e W6 ⟨rfl, hb6⟩))
                  go_ret2
                  exact ⟨bthen' HB2.out (bthen' HB5.out hb6), .inl ⟨HF.out, rfl⟩⟩
                · have hok := Lib.hid (okRow_yes hrb (fun e => hz ((tw_zero hrb).1 e)))
                  have hq4 := fun W => hist_eql2 p.2 noH W
                  rw [decide_eq_false hz] at hq4
                  clear hrb hz
                  go_upto_region 10 with (first
                    | (refine wl_load_mid rfl 49 _ rfl r8 1 rfl (vh p.2) _ (below_range HB5.out RH.out) histU rfl (vhRow p.2) ?_)
                    | (refine wl_load_mid rfl 49 _ rfl r8 1 rfl (vh p.2) _ (below_range (bthen' HB5.out hb6) RH.out) histU rfl (vhRow p.2) ?_)
                    | (refine wl_build2g rfl 49 _ rfl [] (by kernel_rfl) (vh noH).toArray built_no ?_)
                    | (go_at_call 30; refine (KR.out W5).mono ?_; rintro e W6 ⟨rfl, hb6⟩))
                  have HB6 := Lib.hid (bthen' HB5.out hb6)
                  clear hq3 hq4 hb6
                  have hne : Nonempty (Mix.InS (fun z => z.rangeAt r8 0 (rowC p) ∧ z.heap[h]? = some (.cells #[.pointer (some ⟨t, 0, none⟩)] 51 (0, 0)))) := ⟨⟨W6, below_range HB6.out RC.out, (HH2.out.below HB6.out).box⟩⟩
                  have d0 := fun (z : Mix.InS (fun z => z.rangeAt r8 0 (rowC p) ∧ z.heap[h]? = some (.cells #[.pointer (some ⟨t, 0, none⟩)] 51 (0, 0)))) => (show z.w.cell? ⟨r8, 0, none⟩ = some (.string p.1) from by simpa using z.h.1 0 _ rfl)
                  have d1 := fun (z : Mix.InS (fun z => z.rangeAt r8 0 (rowC p) ∧ z.heap[h]? = some (.cells #[.pointer (some ⟨t, 0, none⟩)] 51 (0, 0)))) => ptr_of z.h.2
                  have RT := Lib.hid (fun (w' : World) (hx : ∃ x : Mix.InS (fun z => z.rangeAt r8 0 (rowC p) ∧ z.heap[h]? = some (.cells #[.pointer (some ⟨t, 0, none⟩)] 51 (0, 0))), w' = x.w) => (show w'.rangeAt r8 1 (vh p.2) from by obtain ⟨z, rfl⟩ := hx; exact row_tail z.h.1))
                  refine Mix.wp_region_mix [([0, 1, 2, 3, 4, 5, 6, 7], 8)] [] (fun w' => ∃ x : Mix.InS (fun z => z.rangeAt r8 0 (rowC p) ∧ z.heap[h]? = some (.cells #[.pointer (some ⟨t, 0, none⟩)] 51 (0, 0))), w' = x.w) (by kernel_rfl) (by kernel_rfl) (Mix.inS_mk ⟨below_range (HB6.out.drew) RC.out, (HH2.out.below HB6.out.drew).box⟩) ?_
                  have hb7 : Below W2.heap.size W2 W6.drew := HB6.out.drew
                  generalize W6.drew = W7 at hb7 ⊢
                  refine Mix.stages_cons ?_
                  simp only [Mix.pickL, List.getElem?_cons_zero, List.getElem?_cons_succ]
                  repeat (first
                    | go_big_quiet_skip
                    | (go_big_quiet_want; first
                      | (refine quiet_load_mid 49 _ rfl r8 1 rfl (vh p.2) _ RT.out histU rfl (vhRow p.2) ?_; simp only [Act.put, List.setIfInBounds_toArray, List.set_cons_succ, List.set_cons_zero]; go_big_quiet_on)
                      | (go_big_quiet_op; go_big_quiet_on)))
                  refine wpQuiet_nil ?_
                  have HH7 := Lib.hid (HH2.out.below hb7)
                  have hs7 := hb7.size
                  have hs2 := HB2.out.size
                  go_wp2_with (go_at_call 17; refine (put_any W7 w.heap.size t room c m E HH7.out.tab (by omega) HH7.out.fits h1' p.1 p.2 (by omega)).mono ?_; rintro e W8 ⟨s8, b8, E8, rfl, hu8, hT8, hl8, hf8, hr8⟩)
                  have hbox := hu8.heap HH7.out.out HH7.out.box
                  have hr80 : r8 ∉ tF TE t c m E := fun hin => by have := (HH.out.tab.low _ hin).2; omega
                  refine Mix.onward_in ⟨hu8.range hr80 (below_range hb7 RC.out), hbox⟩ ?_
                  refine Mix.stages_nil ?_
                  simp only [Mix.pickL]
                  refine wpQuiet_nil ?_
                  have hB8 := hu8.toBelow (bthen' HB2.out hb7) (by omega) (fun i hi => (HH7.out.tab.low i hi).1)
                  have hrw : rws E8 = (L.take (k + 1)).reverse := by
                    rw [hr8]
                    unfold ahead
                    rw [oth_none hpk.out, HE.out, ← take_snoc HP.out, List.reverse_append, List.take_of_length_le]
                    · rfl
                    · simp; omega
                  have HRW := Lib.hid hrw
                  clear d0 d1 hne hr8 hu8 hrw hr80
                  go_wp2_with fail
                  go_roundw
                  case rel => exact ⟨k + 1, E8, by omega, by omega, by go_num, hB8, ⟨hbox, hT8, HH7.out.low, hf8⟩, HRW.out, by rw [← take_snoc HP.out]; exact okRows_snoc.2 ⟨HO.out, hok.out, hmem.out⟩⟩
                  case measure => simp [intOf]; omega
        · obtain rfl : k = L.length := by omega
          have hO := HO.out
          have hE := HE.out
          rw [List.take_length] at hO hE
          have HR := Lib.hid (rightL_yes (room := room) (by omega) (by omega) hO)
          have HE2 := Lib.hid hE
          clear hO hE
          go_wp2_with fail
          go_ret2
          exact ⟨HW.out, .inr ⟨HR.out, h, t, c, m, E, rfl, HH.out, by rw [HE2.out, List.reverse_reverse]⟩⟩
end Go.Proofs.Yteifjlhkfmoljaa
