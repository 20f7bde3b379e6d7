/- A history's table tells what the document's does. -/
import Derived.Test.YteifjlhkfmoljaaHRows
import Derived.Test.YteifjlhkfmoljaaHOpen
set_option linter.unusedVariables false
namespace Go.Proofs.Yteifjlhkfmoljaa
open Go.RowKit

theorem qs_at {w : World} {b : Nat} {q : Qs} (h : w.rangeAt b 0 q.cells) : w.cell? ⟨b, 0, none⟩ = some (.string q.key) ∧ w.cell? ⟨b, 1, none⟩ = some q.lv ∧ w.cell? ⟨b, 2, none⟩ = some (.int .i64 q.p) :=
  ⟨by simpa using h 0 _ rfl, by simpa using h 1 _ rfl, by simpa using h 2 _ rfl⟩

theorem hist_guard (x y : Operand) (z : Hs) (w : World) : (eqGuard BinOp.eql 49 x y (hV z) (hV z)).run Try.prog w = .ok () w := by
  have hg := histGuard
  unfold hV
  simp [eqGuard, go_sem, hg]
theorem hist_eql (z : Hs) (w : World) : (binOp BinOp.eql 49 (hV z) (hV z)).run Try.prog w = .ok (.bool true) w := by
  have hg := hist_same z.1 z.2
  have e : hV z = .agg (hcells z.1) := rfl
  rw [e]
  have h2 : (Op.equal 49 (.agg (hcells z.1)) (.agg (hcells z.1))).run Try.prog w = .ok true w := hg w
  simp [binOp, go_sem, h2]
theorem askRow : (Try.prog.info? 25).map (·.size) = some 3 := by kernel_rfl
/-- A table and the document's, beside one another, and what is asked. -/
structure SameIn (B : Nat) (w : World) (h t : Nat) (room : Int) (c m : Nat) (E : List (Ent Hs)) (lv : Value) (q : Qs) : Prop where
  H : HTab B w h t room c m E
  L : Reads rowR w lv (rws E).reverse
  q : q.In w
theorem SameIn.below {B : Nat} {w w' : World} {h t : Nat} {room : Int} {c m : Nat} {E : List (Ent Hs)} {lv : Value} {q : Qs} (s : SameIn B w h t room c m E lv q) (hb : Below w.heap.size w w') : SameIn B w' h t room c m E lv q :=
  ⟨s.H.below hb, s.L.below hb, ⟨s.q.lim.below hb, s.q.bd⟩⟩

set_option maxRecDepth 100000 in
set_option maxHeartbeats 4000000 in
theorem same_true (w : World) (B h t : Nat) (room : Int) (c m : Nat) (E : List (Ent Hs)) (lv : Value) (q : Qs) (S : SameIn B w h t room c m E lv q) (hqL : q.L.length ≤ 1000) (hbig : E.length ≤ 1000) :
    Calls Try.prog 12 #[.pointer (some ⟨h, 0, none⟩), tg room lv, .agg q.cells.toArray] w fun e w' => e = .returned (.bool true) ∧ Below w.heap.size w w' := by
  have hnd : ((rws E).map Prod.fst).Nodup := by unfold rws; rw [List.map_map]; exact S.H.tab.keys
  have hrl : (rws E).reverse.length ≤ 100000 := by simp [rws]; omega
  obtain ⟨key, ql, L, p⟩ := q
  have hlk := look_reverse hnd key
  obtain ⟨z, hz⟩ : ∃ z, z = look key (rws E) := ⟨_, rfl⟩
  have hzr : look key (rws E).reverse = z := by rw [hlk, ← hz]
  have kE := fun W (s : SameIn B W h t room c m E lv ⟨key, ql, L, p⟩) => estimate_any W B h t room c m E s.H key p
  have kH := fun W (s : SameIn B W h t room c m E lv ⟨key, ql, L, p⟩) => hist_any W B h t room c m E s.H key
  have kC := fun W (s : SameIn B W h t room c m E lv ⟨key, ql, L, p⟩) => class_any W B h t room c m E s.H key ql L s.q.lim s.q.bd hqL p
  have kRH := fun W (s : SameIn B W h t room c m E lv ⟨key, ql, L, p⟩) => rhist_any W room lv (rws E).reverse key s.L hrl
  have kRC := fun W (s : SameIn B W h t room c m E lv ⟨key, ql, L, p⟩) => rclass_any W room lv (rws E).reverse key s.L hrl ql L s.q.lim s.q.bd hqL p
  have kR := fun W (s : SameIn B W h t room c m E lv ⟨key, ql, L, p⟩) => rows_any W B h t room c m E s.H (by omega)
  have kS := fun W (s : SameIn B W h t room c m E lv ⟨key, ql, L, p⟩) va (ha : Reads rowR W va (rws E).reverse) => sameRow_any W va lv (rws E).reverse (rws E).reverse ha s.L (by omega)
  have kQ := fun W => rqof_any z p W
  simp only [hzr] at kRH kRC
  simp only [← hz] at kE kH kC
  simp only [decide_true] at kS
  have KS := Lib.hid kS
  clear kS
  have KR := Lib.hid kR
  clear kR
  clear hz hzr hlk
  generalize clsV z L p = cv at kC kRC
  generalize ofv z p = x at kE kQ
  generalize HistLaw.plcOk z.1 p = ok at kE kQ
  obtain ⟨al, cl, hal⟩ := S.L.form
  obtain ⟨aq, cq, haq⟩ := S.q.lim.form
  simp only at haq
  subst hal haq
  have KE := Lib.hid kE
  clear kE
  have KH := Lib.hid kH
  clear kH
  have KC := Lib.hid kC
  clear kC
  have KRH := Lib.hid kRH
  clear kRH
  have KRC := Lib.hid kRC
  clear kRC
  have KQ := Lib.hid kQ
  clear kQ
  have hT : Reads rowR w (.slice al (rws E).reverse.length cl) (rws E).reverse := S.L
  rw [List.length_reverse] at *
  obtain ⟨W1, hW1⟩ : ∃ W1, W1 = (w.alloc (.cells #[.int .i64 room, .slice al (rws E).length cl] 39)).alloc (.cells (Qs.cells ⟨key, .slice aq L.length cq, L, p⟩).toArray 25) := ⟨_, rfl⟩
  obtain ⟨b1, b2, hb1, hs1⟩ := two_boxes (Below.refl _ ((w.alloc (.cells #[.int .i64 room, .slice al (rws E).length cl] 39)).alloc (.cells (Qs.cells ⟨key, .slice aq L.length cq, L, p⟩).toArray 25)))
  rw [← hW1] at b1 b2 hb1 hs1
  have r1 : W1.rangeAt w.heap.size 0 [.int .i64 room, .slice al (rws E).length cl] := fun j v hv => by
    rw [cell_of_row _ w.heap.size (0 + j) _ _ (0, 0) b1]
    simpa using hv
  have r2 : W1.rangeAt (w.heap.size + 1) 0 (Qs.cells ⟨key, .slice aq L.length cq, L, p⟩) := fun j v hv => by
    rw [cell_of_row _ (w.heap.size + 1) (0 + j) _ _ (0, 0) b2]
    simpa using hv
  obtain ⟨n0, n1, n2⟩ := qs_at r2
  have m1 : W1.cell? ⟨w.heap.size, 1, none⟩ = some (.slice al (rws E).length cl) := by have := r1 1 _ rfl; simpa using this
  simp only at n0 n1 n2
  have S1 := Lib.hid (S.below hb1)
  have R1 := Lib.hid r1
  have R2 := Lib.hid r2
  have HB1 := Lib.hid hb1
  clear S hT b1 b2 r1 r2 hb1
  have hgd := histGuard
  go_enter Try.func12, Try.ntmps12
  go_upto_region 1 with fail
  show Code.wp _ _ _ _ ((w.alloc (.cells #[.int .i64 room, .slice al (rws E).length cl] 39)).alloc (.cells (Qs.cells ⟨key, .slice aq L.length cq, L, p⟩).toArray 25))
  rw [← hW1]
  clear hW1
  go_upto_region 2 with (go_at_call 10; refine (KE.out W1 S1.out).mono ?_; rintro e W2 ⟨rfl, hb2⟩)
  clear n0 n1 n2 m1
  have HA := Lib.hid hb2
  have hne : Nonempty (Mix.InS (fun z => Below W1.heap.size W1 z)) := ⟨⟨W1, Below.refl _ _⟩⟩
  obtain ⟨n0, n1, n2⟩ := qs_at R2.out
  have m1 : W1.cell? ⟨w.heap.size, 1, none⟩ = some (.slice al (rws E).length cl) := by have := R1.out 1 _ rfl; simpa using this
  simp only at n0 n1 n2
  have d0 := fun (z : Mix.InS (fun z => Below W1.heap.size W1 z)) => below_cell z.h n0
  have d1 := fun (z : Mix.InS (fun z => Below W1.heap.size W1 z)) => below_cell z.h n1
  have d2 := fun (z : Mix.InS (fun z => Below W1.heap.size W1 z)) => below_cell z.h n2
  have d3 := fun (z : Mix.InS (fun z => Below W1.heap.size W1 z)) => below_cell z.h m1
  have RT := Lib.hid (fun (w' : World) (hx : ∃ x : Mix.InS (fun z => Below W1.heap.size W1 z), w' = x.w) => (show w'.rangeAt w.heap.size 0 [.int .i64 room, .slice al (rws E).length cl] from by obtain ⟨z, rfl⟩ := hx; exact below_range z.h R1.out))
  clear n0 n1 n2 m1 hb2
  refine Mix.wp_region_mix [([0, 1, 2, 4, 5], 3), ([], 6)] [7, 8, 9, 10, 11] (fun w' => ∃ x : Mix.InS (fun z => Below W1.heap.size W1 z), w' = x.w) (by kernel_rfl) (by kernel_rfl) (Mix.inS_mk (bthen' HA.out (Below.refl _ _).drew)) ?_
  have hc3 := Lib.hid (show Below W2.heap.size W2 W2.drew from (Below.refl _ _).drew)
  generalize W2.drew = W3 at hc3 ⊢
  refine Mix.stages_cons ?_
  simp only [Mix.pickL, List.getElem?_cons_zero, List.getElem?_cons_succ]
  repeat (first
    | go_big_quiet_skip
    | (go_big_quiet_want; first
      | (refine quiet_load_mid 39 _ rfl w.heap.size 0 rfl [.int .i64 room, .slice al (rws E).length cl] _ RT.out Try.underlying39 rfl tgRow ?_; simp only [Act.put, List.setIfInBounds_toArray, List.set_cons_succ, List.set_cons_zero]; go_big_quiet_on)
      | (go_big_quiet_op; go_big_quiet_on)))
  refine wpQuiet_nil ?_
  go_wp2_with (go_at_call 24; refine (KRH.out W3 (S1.out.below (bthen' HA.out hc3.out))).mono ?_; rintro e W4 ⟨rfl, hb4⟩)
  have hc4 := Lib.hid (bthen' hc3.out hb4)
  refine Mix.onward_in (bthen' HA.out hc4.out) ?_
  refine Mix.stages_cons ?_
  simp only [Mix.pickL, List.getElem?_cons_zero, List.getElem?_cons_succ]
  repeat (first
    | go_big_quiet_skip
    | (go_big_quiet_want; first
      | (refine quiet_load_mid 39 _ rfl w.heap.size 0 rfl [.int .i64 room, .slice al (rws E).length cl] _ RT.out Try.underlying39 rfl tgRow ?_; simp only [Act.put, List.setIfInBounds_toArray, List.set_cons_succ, List.set_cons_zero]; go_big_quiet_on)
      | (go_big_quiet_op; go_big_quiet_on)))
  refine wpQuiet_nil ?_
  go_wp2_with (go_at_call 25; refine (KQ.out W4).mono ?_; rintro e W5 ⟨rfl, hb5⟩)
  have hc5 := Lib.hid (bthen' hc4.out hb5)
  refine Mix.onward_in (bthen' HA.out hc5.out) ?_
  refine Mix.stages_nil ?_
  simp only [Mix.pickL, List.getElem?_cons_zero, List.getElem?_cons_succ]
  repeat (first
    | go_big_quiet_skip
    | (go_big_quiet_want; first
      | (refine quiet_load_mid 39 _ rfl w.heap.size 0 rfl [.int .i64 room, .slice al (rws E).length cl] _ RT.out Try.underlying39 rfl tgRow ?_; simp only [Act.put, List.setIfInBounds_toArray, List.set_cons_succ, List.set_cons_zero]; go_big_quiet_on)
      | (go_big_quiet_op; go_big_quiet_on)))
  refine wpQuiet_nil ?_
  go_upto_region 3 with fail
  have hc5' := Lib.hid (bthen' HA.out hc5.out)
  have hq3 := fun W => hist_guard (.tmp 42) (.tmp 46) z W
  have hq4 := fun W => hist_eql z W
  clear hgd
  refine Mix.wp_region_mix [([0, 1, 2, 3, 4, 5, 6, 7, 8, 9, 10, 11, 13, 14, 15], 12), ([], 16), ([17, 18, 19, 20, 21, 22, 23, 24, 25, 26, 28, 29, 30, 31, 32, 33, 34], 27), ([], 35), ([36, 37, 38, 39, 41, 42], 40), ([], 43)] [44, 45] (fun w' => ∃ x : Mix.InS (fun z => Below W1.heap.size W1 z), w' = x.w) (by kernel_rfl) (by kernel_rfl) (Mix.inS_mk hc5'.out.drew) ?_
  have hc6 := Lib.hid (show Below W1.heap.size W1 W5.drew from hc5'.out.drew)
  generalize W5.drew = W6 at hc6 ⊢
  refine Mix.stages_cons ?_
  simp only [Mix.pickL, List.getElem?_cons_zero, List.getElem?_cons_succ]
  repeat (first
    | go_big_quiet_skip
    | (go_big_quiet_want; first
      | (refine quiet_load_mid 39 _ rfl w.heap.size 0 rfl [.int .i64 room, .slice al (rws E).length cl] _ RT.out Try.underlying39 rfl tgRow ?_; simp only [Act.put, List.setIfInBounds_toArray, List.set_cons_succ, List.set_cons_zero]; go_big_quiet_on)
      | (go_big_quiet_op; go_big_quiet_on)))
  refine wpQuiet_nil ?_
  go_wp2_with (go_at_call 19; refine (KH.out W6 (S1.out.below hc6.out)).mono ?_; rintro e W7 ⟨rfl, hb7⟩)
  have hc7 := Lib.hid (bthen' hc6.out hb7)
  refine Mix.onward_in hc7.out ?_
  refine Mix.stages_cons ?_
  simp only [Mix.pickL, List.getElem?_cons_zero, List.getElem?_cons_succ]
  repeat (first
    | go_big_quiet_skip
    | (go_big_quiet_want; first
      | (refine quiet_load_mid 39 _ rfl w.heap.size 0 rfl [.int .i64 room, .slice al (rws E).length cl] _ RT.out Try.underlying39 rfl tgRow ?_; simp only [Act.put, List.setIfInBounds_toArray, List.set_cons_succ, List.set_cons_zero]; go_big_quiet_on)
      | (go_big_quiet_op; go_big_quiet_on)))
  refine wpQuiet_nil ?_
  go_wp2_with (go_at_call 24; refine (KRH.out W7 (S1.out.below hc7.out)).mono ?_; rintro e W8 ⟨rfl, hb8⟩)
  have hc8 := Lib.hid (bthen' hc7.out hb8)
  refine Mix.onward_in hc8.out ?_
  refine Mix.stages_cons ?_
  simp only [Mix.pickL, List.getElem?_cons_zero, List.getElem?_cons_succ]
  repeat (first
    | go_big_quiet_skip
    | (go_big_quiet_want; first
      | (refine quiet_load_mid 39 _ rfl w.heap.size 0 rfl [.int .i64 room, .slice al (rws E).length cl] _ RT.out Try.underlying39 rfl tgRow ?_; simp only [Act.put, List.setIfInBounds_toArray, List.set_cons_succ, List.set_cons_zero]; go_big_quiet_on)
      | (go_big_quiet_op; go_big_quiet_on)))
  refine wpQuiet_nil ?_
  go_wp2_with (go_at_call 9; refine (KC.out W8 (S1.out.below hc8.out)).mono ?_; rintro e W9 ⟨rfl, hb9⟩)
  have hc9 := Lib.hid (bthen' hc8.out hb9)
  refine Mix.onward_in hc9.out ?_
  refine Mix.stages_cons ?_
  simp only [Mix.pickL, List.getElem?_cons_zero, List.getElem?_cons_succ]
  repeat (first
    | go_big_quiet_skip
    | (go_big_quiet_want; first
      | (refine quiet_load_mid 39 _ rfl w.heap.size 0 rfl [.int .i64 room, .slice al (rws E).length cl] _ RT.out Try.underlying39 rfl tgRow ?_; simp only [Act.put, List.setIfInBounds_toArray, List.set_cons_succ, List.set_cons_zero]; go_big_quiet_on)
      | (go_big_quiet_op; go_big_quiet_on)))
  refine wpQuiet_nil ?_
  go_wp2_with (go_at_call 26; refine (KRC.out W9 (S1.out.below hc9.out)).mono ?_; rintro e W10 ⟨rfl, hb10⟩)
  have hc10 := Lib.hid (bthen' hc9.out hb10)
  refine Mix.onward_in hc10.out ?_
  refine Mix.stages_cons ?_
  simp only [Mix.pickL, List.getElem?_cons_zero, List.getElem?_cons_succ]
  repeat (first
    | go_big_quiet_skip
    | (go_big_quiet_want; first
      | (refine quiet_load_mid 39 _ rfl w.heap.size 0 rfl [.int .i64 room, .slice al (rws E).length cl] _ RT.out Try.underlying39 rfl tgRow ?_; simp only [Act.put, List.setIfInBounds_toArray, List.set_cons_succ, List.set_cons_zero]; go_big_quiet_on)
      | (go_big_quiet_op; go_big_quiet_on)))
  refine wpQuiet_nil ?_
  go_wp2_with (go_at_call 28; refine (KR.out W10 (S1.out.below hc10.out)).mono ?_; rintro e W11 ⟨va, rfl, hb11, hva⟩)
  have hc11 := Lib.hid (bthen' hc10.out hb11)
  obtain ⟨ar, cr, rfl⟩ := hva.form
  rw [List.length_reverse] at hva ⊢
  refine Mix.onward_in hc11.out ?_
  refine Mix.stages_cons ?_
  simp only [Mix.pickL, List.getElem?_cons_zero, List.getElem?_cons_succ]
  repeat (first
    | go_big_quiet_skip
    | (go_big_quiet_want; first
      | (refine quiet_load_mid 39 _ rfl w.heap.size 0 rfl [.int .i64 room, .slice al (rws E).length cl] _ RT.out Try.underlying39 rfl tgRow ?_; simp only [Act.put, List.setIfInBounds_toArray, List.set_cons_succ, List.set_cons_zero]; go_big_quiet_on)
      | (go_big_quiet_op; go_big_quiet_on)))
  refine wpQuiet_nil ?_
  go_wp2_with (go_at_call 27; refine (KS.out W11 (S1.out.below hc11.out) _ (hva.lts rowOk)).mono ?_; rintro e W12 ⟨rfl, hb12⟩)
  have hc12 := Lib.hid (bthen' hc11.out hb12)
  refine Mix.onward_in hc12.out ?_
  refine Mix.stages_nil ?_
  simp only [Mix.pickL, List.getElem?_cons_zero, List.getElem?_cons_succ]
  repeat (first
    | go_big_quiet_skip
    | (go_big_quiet_want; first
      | (refine quiet_load_mid 39 _ rfl w.heap.size 0 rfl [.int .i64 room, .slice al (rws E).length cl] _ RT.out Try.underlying39 rfl tgRow ?_; simp only [Act.put, List.setIfInBounds_toArray, List.set_cons_succ, List.set_cons_zero]; go_big_quiet_on)
      | (go_big_quiet_op; go_big_quiet_on)))
  refine wpQuiet_nil ?_
  go_wp2_with fail
  go_ret
  exact ⟨rfl, bthen' HB1.out hc12.out⟩
end Go.Proofs.Yteifjlhkfmoljaa
