/- The document's Set. (Printed by genoprset.py.) -/
import Derived.Test.YtddmajgadaooaaaOpRAdd
set_option linter.unusedVariables false
set_option linter.unusedSimpArgs false
namespace Go.Proofs.Ytddmajgadaooaaa
open Go.RowKit

def mid (t : Bool) (o : OpV) : List OpV := if t then [] else [o]
def accL (t : Bool) (L : List OpV) (k : Nat) (o : OpV) (j : Nat) : List OpV := if j ≤ k then L.take j else L.take k ++ mid t o ++ (L.drop (k + 1)).take (j - (k + 1))
theorem acc_zero (t : Bool) (L : List OpV) (k : Nat) (o : OpV) : accL t L k o 0 = [] := by unfold accL; rw [if_pos (Nat.zero_le _)]; rfl
theorem acc_lt {t : Bool} {L : List OpV} {k j : Nat} {o x : OpV} (h : j < k) (hx : L[j]? = some x) : accL t L k o j ++ [x] = accL t L k o (j + 1) := by
  unfold accL
  rw [if_pos (by omega), if_pos (by omega), take_snoc hx]
theorem acc_at {t : Bool} {L : List OpV} {k : Nat} {o : OpV} : accL t L k o k ++ mid t o = accL t L k o (k + 1) := by
  unfold accL
  rw [if_pos (Nat.le_refl _), if_neg (by omega)]
  simp
theorem acc_gt {t : Bool} {L : List OpV} {k j : Nat} {o x : OpV} (h : k < j) (hx : L[j]? = some x) : accL t L k o j ++ [x] = accL t L k o (j + 1) := by
  unfold accL
  rw [if_neg (by omega), if_neg (by omega), List.append_assoc]
  have hx2 : (L.drop (k + 1))[j - (k + 1)]? = some x := by rw [List.getElem?_drop, show k + 1 + (j - (k + 1)) = j by omega]; exact hx
  rw [take_snoc hx2, show j - (k + 1) + 1 = j + 1 - (k + 1) by omega]
theorem acc_len (t : Bool) (L : List OpV) (k : Nat) (o : OpV) (j : Nat) : (accL t L k o j).length ≤ 2 * L.length + 1 := by
  have hm : (mid t o).length ≤ 1 := by unfold mid; split <;> simp
  unfold accL
  split
  · rw [List.length_take]; omega
  · rw [List.length_append, List.length_append, List.length_take, List.length_take, List.length_drop]; omega
theorem setL_acc {L : List OpV} {k : Nat} {o : OpV} (hn : (ids L).Nodup) (hp : placeN L o.id = some k) : accL (term o.st) L k o L.length = setL L o := by
  obtain ⟨x, hx, hid, hg, hk⟩ := place_got hp
  have e : L = L.take k ++ x :: L.drop (k + 1) := by
    obtain ⟨hk, he⟩ := List.getElem?_eq_some_iff.1 hx
    rw [← he, List.getElem_cons_drop, List.take_append_drop]
  have hne : ∀ y, y ∈ L.take k ∨ y ∈ L.drop (k + 1) → y.id ≠ o.id := by
    rw [e, ids_app, List.nodup_append] at hn
    obtain ⟨h1, h2, h3⟩ := hn
    have h4 := List.nodup_cons.1 h2
    intro y hy he
    rw [← hid] at he
    rcases hy with hy | hy
    · exact h3 _ (mem_ids hy) _ (List.mem_cons_self) he
    · exact h4.1 (he ▸ mem_ids hy)
  have ea : accL (term o.st) L k o L.length = L.take k ++ mid (term o.st) o ++ L.drop (k + 1) := by
    unfold accL
    have ht : (L.drop (k + 1)).take (L.length - (k + 1)) = L.drop (k + 1) := List.take_of_length_le (by rw [List.length_drop]; omega)
    rw [if_neg (by omega), ht]
  rw [ea]
  unfold setL butL putO mid
  have f1 : (L.take k).filter (fun x => decide (x.id ≠ o.id)) = L.take k := List.filter_eq_self.2 fun y hy => decide_eq_true (hne y (.inl hy))
  have f2 : (L.drop (k + 1)).filter (fun x => decide (x.id ≠ o.id)) = L.drop (k + 1) := List.filter_eq_self.2 fun y hy => decide_eq_true (hne y (.inr hy))
  have g1 : (L.take k).map (fun x => if x.id = o.id then o else x) = L.take k := by
    conv => rhs; rw [← List.map_id (L.take k)]
    exact List.map_congr_left fun y hy => by rw [if_neg (hne y (.inl hy))]; rfl
  have g2 : (L.drop (k + 1)).map (fun x => if x.id = o.id then o else x) = L.drop (k + 1) := by
    conv => rhs; rw [← List.map_id (L.drop (k + 1))]
    exact List.map_congr_left fun y hy => by rw [if_neg (hne y (.inr hy))]; rfl
  cases term o.st with
  | true =>
    rw [if_pos rfl, if_pos rfl]
    conv => rhs; rw [e]
    rw [List.filter_append, List.filter_cons, decide_eq_false (fun h => h hid), if_neg (by simp), f1, f2]
    simp
  | false =>
    rw [if_neg (by simp), if_neg (by simp)]
    conv => rhs; rw [e]
    rw [List.map_append, List.map_cons, if_pos hid, g1, g2]
    simp
theorem cell_lt {w : World} {b o : Nat} {x : OpV} (h : w.rangeAt b o x.cells) : b < w.heap.size := World.block_lt_of_cell? w _ (h 0 _ rfl)
theorem reads_tailO {B : Nat} {w : World} {g n cap : Nat} {M : List OpV} (h : ReadsAt opR B w (.slice (some ⟨g, 0, none⟩) (n + 1) cap) M) (hM : M.length = n + 1) (hc : n + 1 ≤ cap) :
    ReadsAt opR B w (.slice (if cap = 1 then some ⟨g, 0, none⟩ else some ⟨g, 18, none⟩) n (cap - 1)) (M.drop 1) := by
  by_cases h0 : n = 0
  · subst h0
    exact .inl ⟨List.drop_eq_nil_of_le (by omega), _, _, rfl⟩
  · rw [if_neg (by omega)]
    rcases h with ⟨h1, _⟩ | ⟨b, off, cap', hv, hb, hr⟩
    · rw [h1] at hM; simp at hM
    · simp only [Value.slice.injEq, Option.some.injEq, Addr.mk.injEq, and_true] at hv
      obtain ⟨⟨rfl, rfl⟩, hl, rfl⟩ := hv
      refine .inr ⟨g, 18, cap - 1, by rw [List.length_drop, hM]; simp, hb, fun i x hx => ?_⟩
      rw [List.getElem?_drop] at hx
      have := hr _ _ hx
      rw [show 0 + (1 + i) * opR.n = 18 + i * opR.n from by show 0 + (1 + i) * 18 = 18 + i * 18; omega] at this
      exact this
theorem ReadsAt.readsN {B : Nat} {N : Nat → Prop} {w : World} {v : Value} {L : List OpV} (h : ReadsAt opR B w v L) (hN : ∀ k, B ≤ k → ¬ N k) : ReadsN N w v L := by
  rcases h with h | ⟨b, off, cap, h1, h2, h3⟩
  · exact .inl h
  · cases L with
    | nil => exact .inl ⟨rfl, _, _, h1⟩
    | cons x L =>
      refine .inr ⟨b, off, cap, h1, hN b h2, ?_, h3⟩
      exact cell_lt (h3 0 x rfl)
def RSetP (T : Nat → Prop) (w : World) (r : Nat) (keep next : Int) (L D : List OpV) (o : OpV) (e : Ending) (w' : World) : Prop :=
  e = .returned (.bool (got L o.id).isSome) ∧ Upd [r] w w' ∧ RT T w' r keep next (setsL L o) (setsD keep L D o)

set_option maxRecDepth 100000 in
set_option maxHeartbeats 4000000 in
theorem rset_no (T : Nat → Prop) (w : World) (r : Nat) (keep next : Int) (L D : List OpV) (h : RT T w r keep next L D) (o : OpV) (hL : L.length ≤ 900) (hTlt : ∀ k, T k → k < w.heap.size) (hp : placeN L o.id = none) :
    Calls Try.prog 20 #[.pointer (some ⟨r, 0, none⟩), .agg o.cells.toArray] w (RSetP T w r keep next L D o) := by
  have hg := place_got_none.1 hp
  have eE := Lib.hid (show (got L o.id).isSome = false from by rw [hg]; rfl)
  have eL := Lib.hid (show setsL L o = L from by unfold setsL; rw [hg]; rfl)
  have eD := Lib.hid (show setsD keep L D o = D from by unfold setsD; rw [hg]; rfl)
  clear hg
  have hb1 : Below w.heap.size w (w.alloc (.cells o.cells.toArray 30)) := (Below.refl _ _).alloc (Nat.le_refl _) _
  have hn1 : (w.alloc (.cells o.cells.toArray 30)).heap[w.heap.size]? = some (.cells o.cells.toArray 30 (0, 0)) := heap_alloc_new _ _
  obtain ⟨W1, hW1⟩ : ∃ W1, W1 = w.alloc (.cells o.cells.toArray 30) := ⟨_, rfl⟩
  rw [← hW1] at hb1 hn1
  have H1 := Lib.hid (h.below hb1)
  have HB1 := Lib.hid hb1
  have HN1 := Lib.hid hn1
  have HTL := Lib.hid hTlt
  have k0 : W1.cell? ⟨w.heap.size, 0, none⟩ = some (.int .i64 o.id) := by simpa using (op_range hn1) 0 _ rfl
  obtain ⟨vl, ve, hc, hTr, hrlt, hvl, hve⟩ := H1.out
  obtain ⟨av, cv, rfl⟩ := hvl.form
  obtain ⟨ad, cd, rfl⟩ := hve.form
  have HC := Lib.hid hc
  have HTr := Lib.hid hTr
  have HVL := Lib.hid hvl
  have HVE := Lib.hid hve
  have hrw : r < w.heap.size := by obtain ⟨_, _, _, _, h9, _⟩ := h; exact h9
  have c2 := hc.get (i := 2) rfl
  clear hc hTr hrlt hvl hve
  have kp := fun W (hb : Below W1.heap.size W1 W) => place_any W _ L o.id (HVL.out.reads.below hb) (by omega)
  rw [show placeI L o.id = -1 from by unfold placeI; rw [hp]] at kp
  have KP := Lib.hid kp
  clear h hn1 kp hTlt
  go_enter Try.func20, Try.ntmps20
  go_upto_region 1 with fail
  show Code.wp _ _ _ _ (w.alloc (.cells o.cells.toArray 30))
  rw [← hW1]
  clear hW1 hb1
  have d0 := fun (z : Later W1) => z.cell k0
  have d1 := fun (z : Later W1) => z.cell c2
  refine Mix.wp_region_mix [([0, 1, 2, 3, 4, 5], 6)] [7] (fun w' => ∃ x : Later W1, w' = x.w) (by kernel_rfl) (by kernel_rfl) (Mix.later_drew W1) ?_
  have hb2 : Below W1.heap.size W1 W1.drew := (Below.refl _ _).drew
  generalize W1.drew = W2 at hb2 ⊢
  refine Mix.stages_cons ?_
  simp only [Mix.pickL, List.getElem?_cons_zero, List.getElem?_cons_succ]
  repeat (first
    | go_big_quiet_skip
    | (go_big_quiet_want; (go_big_quiet_op; go_big_quiet_on)))
  refine wpQuiet_nil ?_
  go_wp2_with (go_at_call 31; refine (KP.out _ hb2).mono ?_; rintro e w' ⟨rfl, rfl⟩)
  refine Mix.onward_normal (W := W1) hb2 ?_
  refine Mix.stages_nil ?_
  simp only [Mix.pickL, List.getElem?_cons_zero, List.getElem?_cons_succ]
  repeat (first
    | go_big_quiet_skip
    | (go_big_quiet_want; (go_big_quiet_op; go_big_quiet_on)))
  refine wpQuiet_nil ?_
  clear d0 d1
  clear k0 c2
  go_wp2_with fail
  go_ret
  exact ⟨by rw [eE.out]; rfl, Upd.ofBelow _ (bthen' HB1.out hb2), by rw [eL.out, eD.out]; exact H1.out.below hb2⟩

set_option maxRecDepth 100000 in
set_option maxHeartbeats 4000000 in
theorem rset_yes (T : Nat → Prop) (w : World) (r : Nat) (keep next : Int) (L D : List OpV) (h : RT T w r keep next L D) (o : OpV) (hL : L.length ≤ 900) (hD : D.length ≤ 900) (hTlt : ∀ k, T k → k < w.heap.size) (hnod : (ids L).Nodup) (k : Nat) (hp : placeN L o.id = some k) :
    Calls Try.prog 20 #[.pointer (some ⟨r, 0, none⟩), .agg o.cells.toArray] w (RSetP T w r keep next L D o) := by
  have hkl : k < L.length := by obtain ⟨x, hx, hxi, hg, hk⟩ := place_got hp; exact hk
  have hg : (got L o.id).isSome = true := by obtain ⟨x, hx, hxi, hg, hk⟩ := place_got hp; rw [hg]; rfl
  have HS := Lib.hid (setL_acc hnod hp)
  have eE := Lib.hid hg
  have eL := Lib.hid (show setsL L o = setL L o from by unfold setsL; rw [if_pos hg])
  have eD := Lib.hid (show setsD keep L D o = setDl keep D o from by unfold setsD; rw [if_pos hg])
  clear hg hnod
  have hb1 : Below w.heap.size w (w.alloc (.cells o.cells.toArray 30)) := (Below.refl _ _).alloc (Nat.le_refl _) _
  have hn1 : (w.alloc (.cells o.cells.toArray 30)).heap[w.heap.size]? = some (.cells o.cells.toArray 30 (0, 0)) := heap_alloc_new _ _
  obtain ⟨W1, hW1⟩ : ∃ W1, W1 = w.alloc (.cells o.cells.toArray 30) := ⟨_, rfl⟩
  rw [← hW1] at hb1 hn1
  have H1 := Lib.hid (h.below hb1)
  have HB1 := Lib.hid hb1
  have HN1 := Lib.hid hn1
  have HTL := Lib.hid hTlt
  have k0 : W1.cell? ⟨w.heap.size, 0, none⟩ = some (.int .i64 o.id) := by simpa using (op_range hn1) 0 _ rfl
  obtain ⟨vl, ve, hc, hTr, hrlt, hvl, hve⟩ := H1.out
  obtain ⟨av, cv, rfl⟩ := hvl.form
  obtain ⟨ad, cd, rfl⟩ := hve.form
  have HC := Lib.hid hc
  have HTr := Lib.hid hTr
  have HVL := Lib.hid hvl
  have HVE := Lib.hid hve
  have hrw : r < w.heap.size := by obtain ⟨_, _, _, _, h9, _⟩ := h; exact h9
  have c2 := hc.get (i := 2) rfl
  clear hc hTr hrlt hvl hve
  have kp := fun W (hb : Below W1.heap.size W1 W) => place_any W _ L o.id (HVL.out.reads.below hb) (by omega)
  rw [show placeI L o.id = k from by unfold placeI; rw [hp]] at kp
  have KP := Lib.hid kp
  clear h hn1 kp hTlt
  go_enter Try.func20, Try.ntmps20
  go_upto_region 1 with fail
  show Code.wp _ _ _ _ (w.alloc (.cells o.cells.toArray 30))
  rw [← hW1]
  clear hW1 hb1
  have d0 := fun (z : Later W1) => z.cell k0
  have d1 := fun (z : Later W1) => z.cell c2
  refine Mix.wp_region_mix [([0, 1, 2, 3, 4, 5], 6)] [7] (fun w' => ∃ x : Later W1, w' = x.w) (by kernel_rfl) (by kernel_rfl) (Mix.later_drew W1) ?_
  have hb2 : Below W1.heap.size W1 W1.drew := (Below.refl _ _).drew
  generalize W1.drew = W2 at hb2 ⊢
  refine Mix.stages_cons ?_
  simp only [Mix.pickL, List.getElem?_cons_zero, List.getElem?_cons_succ]
  repeat (first
    | go_big_quiet_skip
    | (go_big_quiet_want; (go_big_quiet_op; go_big_quiet_on)))
  refine wpQuiet_nil ?_
  go_wp2_with (go_at_call 31; refine (KP.out _ hb2).mono ?_; rintro e w' ⟨rfl, rfl⟩)
  refine Mix.onward_normal (W := W1) hb2 ?_
  refine Mix.stages_nil ?_
  simp only [Mix.pickL, List.getElem?_cons_zero, List.getElem?_cons_succ]
  repeat (first
    | go_big_quiet_skip
    | (go_big_quiet_want; (go_big_quiet_op; go_big_quiet_on)))
  refine wpQuiet_nil ?_
  clear d0 d1
  have HN2 := Lib.hid (kept hb2 HN1.out)
  have HB2 := Lib.hid (bthen' HB1.out hb2)
  have HC2 := Lib.hid (HC.out.below hb2)
  have HVL2 := Lib.hid (HVL.out.reads.below hb2)
  have HVE2 := Lib.hid (HVE.out.updP (UpdP.ofB (P := fun _ => False) hb2) (fun k hk => hk.elim))
  have hs2 := HB2.out.size
  have hw2 : w.heap.size < W2.heap.size := lt_of_block HN2.out
  clear k0 c2 hb2 KP HC HVL HVE H1 HB1 HN1
  have ko := fun W => rterminal_any o.st W
  cases htm : term o.st with
  | false =>
    rw [htm] at ko HS
    have KO := Lib.hid ko
    clear ko
    have eM := Lib.hid (show setDl keep D o = D from by unfold setDl; rw [htm]; rfl)
    clear htm
    go_upto_region 4 with fail
    have hO0 := Owns.made (R := opR) (w := W2) (B := W2.heap.size) (Nat.le_refl _)
    have hb3 : Below W2.heap.size W2 (W2.alloc (.cells #[] opR.ty)) := (Below.refl _ _).alloc (Nat.le_refl _) _
    go_upto_region 5 with (refine wl_build_none_rec opOk rfl rfl ?_; generalize W2.alloc (.cells #[] opR.ty) = W3 at hO0 hb3 ⊢)
    have HB3 := Lib.hid hb3
    have HO3 := Lib.hid hO0
    clear hO0 hb3
    go_wp2_with fail
    go_loopw [6, 7] (fun u i wr => ∃ (j : Nat) (a6 : Option Addr) (c6 : Nat), j ≤ L.length ∧ i = .int .i64 j ∧ u = .slice a6 (accL false L k o j).length c6 ∧ Below W2.heap.size W2 wr ∧ Hid (Owns opR W2.heap.size wr u (accL false L k o j))) (fun _ i _ => L.length - (intOf i).toNat)
    case atStart => exact ⟨0, _, _, by omega, rfl, by rw [acc_zero]; rfl, HB3.out, Lib.hid (by rw [acc_zero]; exact HO3.out)⟩
    case round =>
      obtain ⟨j, a6, c6, hj, rfl, rfl, hW, HO⟩ := hrel
      have hwr := hW.size
      have CW := HC2.out.below hW
      have c2 := CW.get (i := 2) rfl
      have al := acc_len false L k o j
      clear CW
      by_cases hlt : j < L.length
      · obtain ⟨x, hx⟩ : ∃ x, L[j]? = some x := ⟨_, List.getElem?_eq_getElem hlt⟩
        have HX := Lib.hid hx
        obtain ⟨b1, o1, rfl, r1⟩ := (HVL2.out.below hW).at hx
        have ro := op_range (kept hW HN2.out)
        have ks : wr.cell? ⟨w.heap.size, 8, none⟩ = some (.int .i64 o.st) := by simpa using ro 8 _ rfl
        clear hx
        by_cases hjk : j = k
        · subst hjk
          have hne : ((j : Int) != (j : Int)) = false := by simp
          go_wp2_with (first
            | (go_at_call 16; refine (KO.out _).mono ?_; rintro e w' ⟨rfl, rfl⟩)
            | (refine wpList_load_mid rfl 30 _ rfl w.heap.size 0 rfl o.cells _ ro Try.underlying30 rfl (opRow o) ?_)
            | (refine wl_build_rec opOk rfl _ rfl o rfl ?_; have hx5 := built_range (R := opR) (w := wr) o; have hb5 : Below wr.heap.size wr (wr.alloc (.cells (opR.val o).cells opR.ty)) := (Below.refl _ _).alloc (Nat.le_refl _) _; generalize wr.alloc (.cells (opR.val o).cells opR.ty) = W5 at hx5 hb5 ⊢; have hOo := HO.out.below hb5; have hszT := hb5.size)
            | (refine wl_append_rec opOk rfl _ _ rfl W2.heap.size _ _ rfl hOo wr.heap.size 0 1 o rfl hx5 (by omega) (by omega) ?_; intro g6 cap W6 hO6 hg6 hat6; have hW6 := (bthen' hW hb5).grown hg6 (by omega) (fun k hk => (hOo.lt k hk).1)))
          have HO2 := Lib.hid (show Owns opR W2.heap.size W6 (.slice (some ⟨g6, 0, none⟩) ((accL false L j o j).length + 1) cap) (accL false L j o (j + 1)) from by rw [← acc_at]; exact hO6)
          go_roundw
          case rel => exact ⟨j + 1, some ⟨g6, 0, none⟩, cap, by omega, by go_num, by rw [← acc_at]; simp [mid], hW6, HO2⟩
          case measure => simp [intOf]; omega
        · have hne : ((j : Int) != (k : Int)) = true := by simp; omega
          have EA := Lib.hid (show accL false L k o j ++ [x] = accL false L k o (j + 1) from by
            rcases Nat.lt_or_gt_of_ne hjk with h9 | h9
            · exact acc_lt h9 HX.out
            · exact acc_gt h9 HX.out)
          clear hjk
          go_wp2_with (first
            | (refine wpList_load_mid rfl 30 _ rfl b1 (o1 + j * opR.n) rfl x.cells _ r1 Try.underlying30 rfl (opRow x) ?_)
            | (refine wl_build_rec opOk rfl _ rfl x rfl ?_; have hx5 := built_range (R := opR) (w := wr) x; have hb5 : Below wr.heap.size wr (wr.alloc (.cells (opR.val x).cells opR.ty)) := (Below.refl _ _).alloc (Nat.le_refl _) _; generalize wr.alloc (.cells (opR.val x).cells opR.ty) = W5 at hx5 hb5 ⊢; have hOo := HO.out.below hb5; have hszT := hb5.size)
            | (refine wl_append_rec opOk rfl _ _ rfl W2.heap.size _ _ rfl hOo wr.heap.size 0 1 x rfl hx5 (by omega) (by omega) ?_; intro g6 cap W6 hO6 hg6 hat6; have hW6 := (bthen' hW hb5).grown hg6 (by omega) (fun k hk => (hOo.lt k hk).1)))
          have HO2 := Lib.hid (show Owns opR W2.heap.size W6 (.slice (some ⟨g6, 0, none⟩) ((accL false L k o j).length + 1) cap) (accL false L k o (j + 1)) from by rw [← EA.out]; exact hO6)
          go_roundw
          case rel => exact ⟨j + 1, _, _, by omega, by go_num, by rw [← EA.out, List.length_append]; rfl, hW6, HO2⟩
          case measure => simp [intOf]; omega
      · obtain rfl : j = L.length := by omega
        have HOL := Lib.hid (show Owns opR W2.heap.size wr (.slice a6 (accL false L k o L.length).length c6) (setL L o) from by rw [← HS.out]; exact HO.out)
        have HN3 := Lib.hid (kept hW HN2.out)
        have HC3 := HC2.out.below hW
        have HVE3 := Lib.hid (HVE2.out.updP (UpdP.ofB (P := fun _ => False) hW) (fun k hk => hk.elim))
        have HW3 := Lib.hid hW
        have f2 := HC3.free (i := 2) rfl
        have CY := HC3.set 2 (.slice a6 (accL false L k o L.length).length c6)
        clear HO al hlt hW
        go_upto_region 13 with fail
        have HUY := Lib.hid ((Upd.refl [r] wr).setCell (show r ∈ [r] by simp) (p := ⟨r, 2, none⟩) (.slice a6 (accL false L k o L.length).length c6))
        generalize wr.setCell ⟨r, 2, none⟩ (.slice a6 (accL false L k o L.length).length c6) = Wy at CY HUY ⊢
        have hsy := HUY.out.size
        have hPy : UpdP (fun k => T k ∨ k = r) wr Wy := UpdP.of HUY.out (fun k hk => by simp at hk; exact .inl (.inr hk))
        have HRL := Lib.hid (show ReadsN (fun k => T k ∨ k = r) Wy (.slice a6 (accL false L k o L.length).length c6) (setL L o) from (Owns.readsN HOL.out (fun k hk hk2 h9 => by
          rcases h9 with h9 | h9
          · have := HTL.out k h9; omega
          · omega)).updP hPy (fun k hk => hk))
        have HRD := Lib.hid (HVE3.out.updP hPy (fun k hk => hk))
        have HUA := Lib.hid (show Upd [r] w Wy from (Upd.ofBelow [r] HB2.out).trans ((Upd.ofBelow [r] HW3.out).trans HUY.out))
        have HNy := Lib.hid (HUY.out.heap (show w.heap.size ∉ [r] by simp; omega) HN3.out)
        have HCY := Lib.hid CY
        have ks : Wy.cell? ⟨w.heap.size, 8, none⟩ = some (.int .i64 o.st) := by simpa using (op_range HNy.out) 8 _ rfl
        clear f2 c2 HC3 HOL HVE3 HN3 hPy HUY CY HW3
        go_wp2_with (go_at_call 16; refine (KO.out _).mono ?_; rintro e w' ⟨rfl, rfl⟩)
        go_ret
        refine ⟨by rw [eE.out]; rfl, HUA.out, ?_⟩
        rw [eL.out, eD.out, eM.out]
        exact ⟨_, _, HCY.out, HTr.out, by omega, HRL.out, HRD.out⟩
  | true =>
    rw [htm] at ko HS
    have KO := Lib.hid ko
    clear ko
    have eM := Lib.hid (show setDl keep D o = endL keep D o from by unfold setDl; rw [htm]; rfl)
    clear htm
    go_upto_region 4 with fail
    have hO0 := Owns.made (R := opR) (w := W2) (B := W2.heap.size) (Nat.le_refl _)
    have hb3 : Below W2.heap.size W2 (W2.alloc (.cells #[] opR.ty)) := (Below.refl _ _).alloc (Nat.le_refl _) _
    go_upto_region 5 with (refine wl_build_none_rec opOk rfl rfl ?_; generalize W2.alloc (.cells #[] opR.ty) = W3 at hO0 hb3 ⊢)
    have HB3 := Lib.hid hb3
    have HO3 := Lib.hid hO0
    clear hO0 hb3
    go_wp2_with fail
    go_loopw [6, 7] (fun u i wr => ∃ (j : Nat) (a6 : Option Addr) (c6 : Nat), j ≤ L.length ∧ i = .int .i64 j ∧ u = .slice a6 (accL true L k o j).length c6 ∧ Below W2.heap.size W2 wr ∧ Hid (Owns opR W2.heap.size wr u (accL true L k o j))) (fun _ i _ => L.length - (intOf i).toNat)
    case atStart => exact ⟨0, _, _, by omega, rfl, by rw [acc_zero]; rfl, HB3.out, Lib.hid (by rw [acc_zero]; exact HO3.out)⟩
    case round =>
      obtain ⟨j, a6, c6, hj, rfl, rfl, hW, HO⟩ := hrel
      have hwr := hW.size
      have CW := HC2.out.below hW
      have c2 := CW.get (i := 2) rfl
      have al := acc_len true L k o j
      clear CW
      by_cases hlt : j < L.length
      · obtain ⟨x, hx⟩ : ∃ x, L[j]? = some x := ⟨_, List.getElem?_eq_getElem hlt⟩
        have HX := Lib.hid hx
        obtain ⟨b1, o1, rfl, r1⟩ := (HVL2.out.below hW).at hx
        have ro := op_range (kept hW HN2.out)
        have ks : wr.cell? ⟨w.heap.size, 8, none⟩ = some (.int .i64 o.st) := by simpa using ro 8 _ rfl
        clear hx
        by_cases hjk : j = k
        · subst hjk
          have hne : ((j : Int) != (j : Int)) = false := by simp
          have HO2 := Lib.hid (show Owns opR W2.heap.size wr (.slice a6 (accL true L j o j).length c6) (accL true L j o (j + 1)) from by rw [← acc_at]; simpa [mid] using HO.out)
          clear HO
          go_wp2_with (go_at_call 16; refine (KO.out _).mono ?_; rintro e w' ⟨rfl, rfl⟩)
          go_roundw
          case rel => exact ⟨j + 1, a6, c6, by omega, by go_num, by rw [← acc_at]; simp [mid], hW, HO2⟩
          case measure => simp [intOf]; omega
        · have hne : ((j : Int) != (k : Int)) = true := by simp; omega
          have EA := Lib.hid (show accL true L k o j ++ [x] = accL true L k o (j + 1) from by
            rcases Nat.lt_or_gt_of_ne hjk with h9 | h9
            · exact acc_lt h9 HX.out
            · exact acc_gt h9 HX.out)
          clear hjk
          go_wp2_with (first
            | (refine wpList_load_mid rfl 30 _ rfl b1 (o1 + j * opR.n) rfl x.cells _ r1 Try.underlying30 rfl (opRow x) ?_)
            | (refine wl_build_rec opOk rfl _ rfl x rfl ?_; have hx5 := built_range (R := opR) (w := wr) x; have hb5 : Below wr.heap.size wr (wr.alloc (.cells (opR.val x).cells opR.ty)) := (Below.refl _ _).alloc (Nat.le_refl _) _; generalize wr.alloc (.cells (opR.val x).cells opR.ty) = W5 at hx5 hb5 ⊢; have hOo := HO.out.below hb5; have hszT := hb5.size)
            | (refine wl_append_rec opOk rfl _ _ rfl W2.heap.size _ _ rfl hOo wr.heap.size 0 1 x rfl hx5 (by omega) (by omega) ?_; intro g6 cap W6 hO6 hg6 hat6; have hW6 := (bthen' hW hb5).grown hg6 (by omega) (fun k hk => (hOo.lt k hk).1)))
          have HO2 := Lib.hid (show Owns opR W2.heap.size W6 (.slice (some ⟨g6, 0, none⟩) ((accL true L k o j).length + 1) cap) (accL true L k o (j + 1)) from by rw [← EA.out]; exact hO6)
          go_roundw
          case rel => exact ⟨j + 1, _, _, by omega, by go_num, by rw [← EA.out, List.length_append]; rfl, hW6, HO2⟩
          case measure => simp [intOf]; omega
      · obtain rfl : j = L.length := by omega
        have HOL := Lib.hid (show Owns opR W2.heap.size wr (.slice a6 (accL true L k o L.length).length c6) (setL L o) from by rw [← HS.out]; exact HO.out)
        have HN3 := Lib.hid (kept hW HN2.out)
        have HC3 := HC2.out.below hW
        have HVE3 := Lib.hid (HVE2.out.updP (UpdP.ofB (P := fun _ => False) hW) (fun k hk => hk.elim))
        have HW3 := Lib.hid hW
        have f2 := HC3.free (i := 2) rfl
        have CY := HC3.set 2 (.slice a6 (accL true L k o L.length).length c6)
        clear HO al hlt hW
        go_upto_region 13 with fail
        have HUY := Lib.hid ((Upd.refl [r] wr).setCell (show r ∈ [r] by simp) (p := ⟨r, 2, none⟩) (.slice a6 (accL true L k o L.length).length c6))
        generalize wr.setCell ⟨r, 2, none⟩ (.slice a6 (accL true L k o L.length).length c6) = Wy at CY HUY ⊢
        have hsy := HUY.out.size
        have hPy : UpdP (fun k => T k ∨ k = r) wr Wy := UpdP.of HUY.out (fun k hk => by simp at hk; exact .inl (.inr hk))
        have HRL := Lib.hid (show ReadsN (fun k => T k ∨ k = r) Wy (.slice a6 (accL true L k o L.length).length c6) (setL L o) from (Owns.readsN HOL.out (fun k hk hk2 h9 => by
          rcases h9 with h9 | h9
          · have := HTL.out k h9; omega
          · omega)).updP hPy (fun k hk => hk))
        have HRD := Lib.hid (HVE3.out.updP hPy (fun k hk => hk))
        have HUA := Lib.hid (show Upd [r] w Wy from (Upd.ofBelow [r] HB2.out).trans ((Upd.ofBelow [r] HW3.out).trans HUY.out))
        have HNy := Lib.hid (HUY.out.heap (show w.heap.size ∉ [r] by simp; omega) HN3.out)
        have HCY := Lib.hid CY
        have ks : Wy.cell? ⟨w.heap.size, 8, none⟩ = some (.int .i64 o.st) := by simpa using (op_range HNy.out) 8 _ rfl
        clear f2 c2 HC3 HOL HVE3 HN3 hPy HUY CY HW3
        go_upto_region 14 with (go_at_call 16; refine (KO.out _).mono ?_; rintro e w' ⟨rfl, rfl⟩)
        have HVR := Lib.hid HRD.out.reads
        have c3 := HCY.out.get (i := 3) rfl
        have hneS : Nonempty (Mix.InS (fun z => Below Wy.heap.size Wy z)) := ⟨⟨Wy, Below.refl _ _⟩⟩
        have d0 := fun (z : Mix.InS (fun z => Below Wy.heap.size Wy z)) => below_cell z.h c3
        have RT' := Lib.hid (fun (w' : World) (hx : ∃ x : Mix.InS (fun z => Below Wy.heap.size Wy z), w' = x.w) => (show w'.rangeAt w.heap.size 0 o.cells from by obtain ⟨z, rfl⟩ := hx; exact below_range z.h (op_range HNy.out)))
        clear c3 ks
        refine Mix.wp_region_tree (.two [1, 2, 3, 4, 6] 0 (.two [] 5 (.op [] 7 (.op [] 8 (.fin [9]))) 7 (.op [] 5 (.op [] 8 (.fin [9])))) 7 (.op [] 0 (.op [] 5 (.op [] 8 (.fin [9]))))) (fun w' => ∃ x : Mix.InS (fun z => Below Wy.heap.size Wy z), w' = x.w) (by kernel_rfl) (by kernel_rfl) (Mix.inS_mk (Below.refl _ _).drew) ?_
        have TT0 := Lib.hid ((Two.start (R := opR) (W0 := Wy) (v := .slice ad D.length cd) (L := D) (x := o) (v8 := undef) (v9 := undef) (v10 := undef) (v11 := undef) (v12 := undef) (v13 := undef) (show Below Wy.heap.size Wy Wy.drew from (Below.refl _ _).drew)).step1.step3)
        generalize Wy.drew = X0 at TT0 ⊢
        refine Mix.tree_two ?_
        simp only [Mix.pickL, List.getElem?_cons_zero, List.getElem?_cons_succ]
        repeat (first
          | go_big_quiet_skip
          | (go_big_quiet_want; first
            | (refine quiet_load_mid 30 _ rfl w.heap.size 0 rfl o.cells _ RT'.out Try.underlying30 rfl (opRow o) ?_; simp only [Act.put, List.setIfInBounds_toArray, List.set_cons_succ, List.set_cons_zero]; go_big_quiet_on)
            | (go_big_quiet_op; go_big_quiet_on)))
        refine wpQuiet_nil ?_
        clear d0 RT' hneS
        refine ⟨?_, ?_⟩
        · go_wp2_with (refine wl_build_none_rec opOk rfl rfl ?_)
          have TT1 := Lib.hid TT0.out.step0
          refine Mix.onward_in (W' := X0.alloc (.cells #[] opR.ty)) TT1.out.below ?_
          generalize X0.alloc (.cells #[] opR.ty) = X1 at TT1 ⊢
          refine Mix.tree_two ?_
          simp only [Mix.pickL, List.getElem?_cons_zero, List.getElem?_cons_succ]
          refine wpQuiet_nil ?_
          refine ⟨?_, ?_⟩
          · go_wp2_with (refine wl_append_all opOk rfl _ _ rfl rfl Wy.heap.size _ _ [] D rfl rfl (TT1.out.p0 rfl rfl) (HVR.out.below TT1.out.below) (by simp; omega) TT1.out.below.size ?_; intro ua X2 hOa hga hba)
            have TT2 := Lib.hid (TT1.out.step2 hOa hga)
            refine Mix.onward_in (W' := X2) TT2.out.below ?_
            clear hOa hga hba
            refine Mix.tree_op ?_
            simp only [Mix.pickL, List.getElem?_cons_zero, List.getElem?_cons_succ]
            refine wpQuiet_nil ?_
            go_wp2_with (refine wl_build_rec opOk rfl _ rfl o rfl ?_; have TT3 := Lib.hid TT2.out.step4; generalize X2.alloc (.cells (opR.val o).cells opR.ty) = X3 at TT3 ⊢)
            refine Mix.onward_in (W' := X3) TT3.out.below ?_
            refine Mix.tree_op ?_
            simp only [Mix.pickL, List.getElem?_cons_zero, List.getElem?_cons_succ]
            refine wpQuiet_nil ?_
            obtain ⟨cx, hcx, hx1, hx2, hx3, -⟩ := TT3.out.p4 rfl rfl
            cases hcx
            go_wp2_with (refine wl_append_rec opOk rfl _ _ rfl Wy.heap.size _ D rfl (TT3.out.p2 rfl rfl) _ 0 1 o rfl hx3 (by omega) TT3.out.below.size ?_; intro gz cz Wz hOz hgz haz)
            have TZ := Lib.hid (TT3.out.step5 hOz hgz)
            refine Mix.onward_in (W' := Wz) TZ.out.below ?_
            clear hOz hgz haz hx1 hx2 hx3
            refine Mix.tree_fin ?_
            simp only [Mix.pickL, List.getElem?_cons_zero, List.getElem?_cons_succ]
            repeat (first
              | go_big_quiet_skip
              | (go_big_quiet_want; (go_big_quiet_op; go_big_quiet_on)))
            refine wpQuiet_nil ?_
            (try simp only [Act.put])
            have HCZ := Lib.hid (HCY.out.below TZ.out.below)
            have z0 := HCZ.out.get (i := 0) rfl
            have z3 := HCZ.out.get (i := 3) rfl
            have f3 := HCZ.out.free (i := 3) rfl
            have HOZ := Lib.hid (TZ.out.p5 rfl)
            have hcap : D.length + 1 ≤ cz := by
              obtain ⟨a9, c9, e9, hc9⟩ := HOZ.out.capOk
              simp only [Value.slice.injEq] at e9
              obtain ⟨_, _, rfl⟩ := e9
              simpa using hc9
            have HBZ := Lib.hid TZ.out.below
            have hsz := HBZ.out.size
            have HRLz := Lib.hid (HRL.out.updP (UpdP.ofB (P := fun _ => False) HBZ.out) (fun k hk => hk.elim))
            clear TZ
            by_cases hroom : keep < (D.length : Int) + 1
            · have HA := Lib.hid (reads_tailO (HOZ.out.at opOk) (by simp) hcap)
              have eEnd := Lib.hid (show endL keep D o = (D ++ [o]).drop 1 from by unfold endL; rw [if_pos (by simp; omega)])
              go_upto_region 17 with fail
              generalize (if cz = 1 then some (⟨gz, 0, none⟩ : Addr) else some ⟨gz, 18, none⟩) = a2 at HA ⊢
              have CX := Lib.hid (HCZ.out.set 3 (.slice a2 D.length (cz - 1)))
              go_upto_region 18 with fail
              have HUX := Lib.hid ((Upd.refl [r] Wz).setCell (show r ∈ [r] by simp) (p := ⟨r, 3, none⟩) (.slice a2 D.length (cz - 1)))
              generalize Wz.setCell ⟨r, 3, none⟩ (.slice a2 D.length (cz - 1)) = Wx at CX HUX ⊢
              go_wp2_with fail
              go_ret
              have hPx : UpdP (fun k => T k ∨ k = r) Wz Wx := UpdP.of HUX.out (fun k hk => by simp at hk; exact .inl (.inr hk))
              have hsx := HUX.out.size
              refine ⟨by rw [eE.out]; rfl, HUA.out.trans ((Upd.ofBelow [r] HBZ.out).trans HUX.out), ?_⟩
              rw [eL.out, eD.out, eM.out, eEnd.out]
              refine ⟨_, _, CX.out, HTr.out, by omega, HRLz.out.updP hPx (fun k hk => hk), ?_⟩
              refine (ReadsAt.readsN HA.out (fun k hk h9 => ?_)).updP hPx (fun k hk => hk)
              rcases h9 with h9 | h9
              · have := HTL.out k h9; omega
              · omega
            · have eEnd := Lib.hid (show endL keep D o = D ++ [o] from by unfold endL; rw [if_neg (by simp; omega)])
              have CX := Lib.hid (HCZ.out.set 3 (.slice (some ⟨gz, 0, none⟩) (D.length + 1) cz))
              go_upto_region 18 with fail
              have HUX := Lib.hid ((Upd.refl [r] Wz).setCell (show r ∈ [r] by simp) (p := ⟨r, 3, none⟩) (.slice (some ⟨gz, 0, none⟩) (D.length + 1) cz))
              generalize Wz.setCell ⟨r, 3, none⟩ (.slice (some ⟨gz, 0, none⟩) (D.length + 1) cz) = Wx at CX HUX ⊢
              go_wp2_with fail
              go_ret
              have hPx : UpdP (fun k => T k ∨ k = r) Wz Wx := UpdP.of HUX.out (fun k hk => by simp at hk; exact .inl (.inr hk))
              have hsx := HUX.out.size
              refine ⟨by rw [eE.out]; rfl, HUA.out.trans ((Upd.ofBelow [r] HBZ.out).trans HUX.out), ?_⟩
              rw [eL.out, eD.out, eM.out, eEnd.out]
              refine ⟨_, _, CX.out, HTr.out, by omega, HRLz.out.updP hPx (fun k hk => hk), ?_⟩
              refine (ReadsAt.readsN (HOZ.out.at opOk) (fun k hk h9 => ?_)).updP hPx (fun k hk => hk)
              rcases h9 with h9 | h9
              · have := HTL.out k h9; omega
              · omega
          · go_wp2_with (refine wl_build_rec opOk rfl _ rfl o rfl ?_; have TT2 := Lib.hid TT1.out.step4; generalize X1.alloc (.cells (opR.val o).cells opR.ty) = X2 at TT2 ⊢)
            refine Mix.onward_in (W' := X2) TT2.out.below ?_
            refine Mix.tree_op ?_
            simp only [Mix.pickL, List.getElem?_cons_zero, List.getElem?_cons_succ]
            refine wpQuiet_nil ?_
            go_wp2_with (refine wl_append_all opOk rfl _ _ rfl rfl Wy.heap.size _ _ [] D rfl rfl (TT2.out.p0 rfl rfl) (HVR.out.below TT2.out.below) (by simp; omega) TT2.out.below.size ?_; intro ua X3 hOa hga hba)
            have TT3 := Lib.hid (TT2.out.step2 hOa hga)
            refine Mix.onward_in (W' := X3) TT3.out.below ?_
            clear hOa hga hba
            refine Mix.tree_op ?_
            simp only [Mix.pickL, List.getElem?_cons_zero, List.getElem?_cons_succ]
            refine wpQuiet_nil ?_
            obtain ⟨cx, hcx, hx1, hx2, hx3, -⟩ := TT3.out.p4 rfl rfl
            cases hcx
            go_wp2_with (refine wl_append_rec opOk rfl _ _ rfl Wy.heap.size _ D rfl (TT3.out.p2 rfl rfl) _ 0 1 o rfl hx3 (by omega) TT3.out.below.size ?_; intro gz cz Wz hOz hgz haz)
            have TZ := Lib.hid (TT3.out.step5 hOz hgz)
            refine Mix.onward_in (W' := Wz) TZ.out.below ?_
            clear hOz hgz haz hx1 hx2 hx3
            refine Mix.tree_fin ?_
            simp only [Mix.pickL, List.getElem?_cons_zero, List.getElem?_cons_succ]
            repeat (first
              | go_big_quiet_skip
              | (go_big_quiet_want; (go_big_quiet_op; go_big_quiet_on)))
            refine wpQuiet_nil ?_
            (try simp only [Act.put])
            have HCZ := Lib.hid (HCY.out.below TZ.out.below)
            have z0 := HCZ.out.get (i := 0) rfl
            have z3 := HCZ.out.get (i := 3) rfl
            have f3 := HCZ.out.free (i := 3) rfl
            have HOZ := Lib.hid (TZ.out.p5 rfl)
            have hcap : D.length + 1 ≤ cz := by
              obtain ⟨a9, c9, e9, hc9⟩ := HOZ.out.capOk
              simp only [Value.slice.injEq] at e9
              obtain ⟨_, _, rfl⟩ := e9
              simpa using hc9
            have HBZ := Lib.hid TZ.out.below
            have hsz := HBZ.out.size
            have HRLz := Lib.hid (HRL.out.updP (UpdP.ofB (P := fun _ => False) HBZ.out) (fun k hk => hk.elim))
            clear TZ
            by_cases hroom : keep < (D.length : Int) + 1
            · have HA := Lib.hid (reads_tailO (HOZ.out.at opOk) (by simp) hcap)
              have eEnd := Lib.hid (show endL keep D o = (D ++ [o]).drop 1 from by unfold endL; rw [if_pos (by simp; omega)])
              go_upto_region 17 with fail
              generalize (if cz = 1 then some (⟨gz, 0, none⟩ : Addr) else some ⟨gz, 18, none⟩) = a2 at HA ⊢
              have CX := Lib.hid (HCZ.out.set 3 (.slice a2 D.length (cz - 1)))
              go_upto_region 18 with fail
              have HUX := Lib.hid ((Upd.refl [r] Wz).setCell (show r ∈ [r] by simp) (p := ⟨r, 3, none⟩) (.slice a2 D.length (cz - 1)))
              generalize Wz.setCell ⟨r, 3, none⟩ (.slice a2 D.length (cz - 1)) = Wx at CX HUX ⊢
              go_wp2_with fail
              go_ret
              have hPx : UpdP (fun k => T k ∨ k = r) Wz Wx := UpdP.of HUX.out (fun k hk => by simp at hk; exact .inl (.inr hk))
              have hsx := HUX.out.size
              refine ⟨by rw [eE.out]; rfl, HUA.out.trans ((Upd.ofBelow [r] HBZ.out).trans HUX.out), ?_⟩
              rw [eL.out, eD.out, eM.out, eEnd.out]
              refine ⟨_, _, CX.out, HTr.out, by omega, HRLz.out.updP hPx (fun k hk => hk), ?_⟩
              refine (ReadsAt.readsN HA.out (fun k hk h9 => ?_)).updP hPx (fun k hk => hk)
              rcases h9 with h9 | h9
              · have := HTL.out k h9; omega
              · omega
            · have eEnd := Lib.hid (show endL keep D o = D ++ [o] from by unfold endL; rw [if_neg (by simp; omega)])
              have CX := Lib.hid (HCZ.out.set 3 (.slice (some ⟨gz, 0, none⟩) (D.length + 1) cz))
              go_upto_region 18 with fail
              have HUX := Lib.hid ((Upd.refl [r] Wz).setCell (show r ∈ [r] by simp) (p := ⟨r, 3, none⟩) (.slice (some ⟨gz, 0, none⟩) (D.length + 1) cz))
              generalize Wz.setCell ⟨r, 3, none⟩ (.slice (some ⟨gz, 0, none⟩) (D.length + 1) cz) = Wx at CX HUX ⊢
              go_wp2_with fail
              go_ret
              have hPx : UpdP (fun k => T k ∨ k = r) Wz Wx := UpdP.of HUX.out (fun k hk => by simp at hk; exact .inl (.inr hk))
              have hsx := HUX.out.size
              refine ⟨by rw [eE.out]; rfl, HUA.out.trans ((Upd.ofBelow [r] HBZ.out).trans HUX.out), ?_⟩
              rw [eL.out, eD.out, eM.out, eEnd.out]
              refine ⟨_, _, CX.out, HTr.out, by omega, HRLz.out.updP hPx (fun k hk => hk), ?_⟩
              refine (ReadsAt.readsN (HOZ.out.at opOk) (fun k hk h9 => ?_)).updP hPx (fun k hk => hk)
              rcases h9 with h9 | h9
              · have := HTL.out k h9; omega
              · omega
        · go_wp2_with (refine wl_build_rec opOk rfl _ rfl o rfl ?_; have TT1 := Lib.hid TT0.out.step4; generalize X0.alloc (.cells (opR.val o).cells opR.ty) = X1 at TT1 ⊢)
          refine Mix.onward_in (W' := X1) TT1.out.below ?_
          refine Mix.tree_op ?_
          simp only [Mix.pickL, List.getElem?_cons_zero, List.getElem?_cons_succ]
          refine wpQuiet_nil ?_
          go_wp2_with (refine wl_build_none_rec opOk rfl rfl ?_)
          have TT2 := Lib.hid TT1.out.step0
          refine Mix.onward_in (W' := X1.alloc (.cells #[] opR.ty)) TT2.out.below ?_
          generalize X1.alloc (.cells #[] opR.ty) = X2 at TT2 ⊢
          refine Mix.tree_op ?_
          simp only [Mix.pickL, List.getElem?_cons_zero, List.getElem?_cons_succ]
          refine wpQuiet_nil ?_
          go_wp2_with (refine wl_append_all opOk rfl _ _ rfl rfl Wy.heap.size _ _ [] D rfl rfl (TT2.out.p0 rfl rfl) (HVR.out.below TT2.out.below) (by simp; omega) TT2.out.below.size ?_; intro ua X3 hOa hga hba)
          have TT3 := Lib.hid (TT2.out.step2 hOa hga)
          refine Mix.onward_in (W' := X3) TT3.out.below ?_
          clear hOa hga hba
          refine Mix.tree_op ?_
          simp only [Mix.pickL, List.getElem?_cons_zero, List.getElem?_cons_succ]
          refine wpQuiet_nil ?_
          obtain ⟨cx, hcx, hx1, hx2, hx3, -⟩ := TT3.out.p4 rfl rfl
          cases hcx
          go_wp2_with (refine wl_append_rec opOk rfl _ _ rfl Wy.heap.size _ D rfl (TT3.out.p2 rfl rfl) _ 0 1 o rfl hx3 (by omega) TT3.out.below.size ?_; intro gz cz Wz hOz hgz haz)
          have TZ := Lib.hid (TT3.out.step5 hOz hgz)
          refine Mix.onward_in (W' := Wz) TZ.out.below ?_
          clear hOz hgz haz hx1 hx2 hx3
          refine Mix.tree_fin ?_
          simp only [Mix.pickL, List.getElem?_cons_zero, List.getElem?_cons_succ]
          repeat (first
            | go_big_quiet_skip
            | (go_big_quiet_want; (go_big_quiet_op; go_big_quiet_on)))
          refine wpQuiet_nil ?_
          (try simp only [Act.put])
          have HCZ := Lib.hid (HCY.out.below TZ.out.below)
          have z0 := HCZ.out.get (i := 0) rfl
          have z3 := HCZ.out.get (i := 3) rfl
          have f3 := HCZ.out.free (i := 3) rfl
          have HOZ := Lib.hid (TZ.out.p5 rfl)
          have hcap : D.length + 1 ≤ cz := by
            obtain ⟨a9, c9, e9, hc9⟩ := HOZ.out.capOk
            simp only [Value.slice.injEq] at e9
            obtain ⟨_, _, rfl⟩ := e9
            simpa using hc9
          have HBZ := Lib.hid TZ.out.below
          have hsz := HBZ.out.size
          have HRLz := Lib.hid (HRL.out.updP (UpdP.ofB (P := fun _ => False) HBZ.out) (fun k hk => hk.elim))
          clear TZ
          by_cases hroom : keep < (D.length : Int) + 1
          · have HA := Lib.hid (reads_tailO (HOZ.out.at opOk) (by simp) hcap)
            have eEnd := Lib.hid (show endL keep D o = (D ++ [o]).drop 1 from by unfold endL; rw [if_pos (by simp; omega)])
            go_upto_region 17 with fail
            generalize (if cz = 1 then some (⟨gz, 0, none⟩ : Addr) else some ⟨gz, 18, none⟩) = a2 at HA ⊢
            have CX := Lib.hid (HCZ.out.set 3 (.slice a2 D.length (cz - 1)))
            go_upto_region 18 with fail
            have HUX := Lib.hid ((Upd.refl [r] Wz).setCell (show r ∈ [r] by simp) (p := ⟨r, 3, none⟩) (.slice a2 D.length (cz - 1)))
            generalize Wz.setCell ⟨r, 3, none⟩ (.slice a2 D.length (cz - 1)) = Wx at CX HUX ⊢
            go_wp2_with fail
            go_ret
            have hPx : UpdP (fun k => T k ∨ k = r) Wz Wx := UpdP.of HUX.out (fun k hk => by simp at hk; exact .inl (.inr hk))
            have hsx := HUX.out.size
            refine ⟨by rw [eE.out]; rfl, HUA.out.trans ((Upd.ofBelow [r] HBZ.out).trans HUX.out), ?_⟩
            rw [eL.out, eD.out, eM.out, eEnd.out]
            refine ⟨_, _, CX.out, HTr.out, by omega, HRLz.out.updP hPx (fun k hk => hk), ?_⟩
            refine (ReadsAt.readsN HA.out (fun k hk h9 => ?_)).updP hPx (fun k hk => hk)
            rcases h9 with h9 | h9
            · have := HTL.out k h9; omega
            · omega
          · have eEnd := Lib.hid (show endL keep D o = D ++ [o] from by unfold endL; rw [if_neg (by simp; omega)])
            have CX := Lib.hid (HCZ.out.set 3 (.slice (some ⟨gz, 0, none⟩) (D.length + 1) cz))
            go_upto_region 18 with fail
            have HUX := Lib.hid ((Upd.refl [r] Wz).setCell (show r ∈ [r] by simp) (p := ⟨r, 3, none⟩) (.slice (some ⟨gz, 0, none⟩) (D.length + 1) cz))
            generalize Wz.setCell ⟨r, 3, none⟩ (.slice (some ⟨gz, 0, none⟩) (D.length + 1) cz) = Wx at CX HUX ⊢
            go_wp2_with fail
            go_ret
            have hPx : UpdP (fun k => T k ∨ k = r) Wz Wx := UpdP.of HUX.out (fun k hk => by simp at hk; exact .inl (.inr hk))
            have hsx := HUX.out.size
            refine ⟨by rw [eE.out]; rfl, HUA.out.trans ((Upd.ofBelow [r] HBZ.out).trans HUX.out), ?_⟩
            rw [eL.out, eD.out, eM.out, eEnd.out]
            refine ⟨_, _, CX.out, HTr.out, by omega, HRLz.out.updP hPx (fun k hk => hk), ?_⟩
            refine (ReadsAt.readsN (HOZ.out.at opOk) (fun k hk h9 => ?_)).updP hPx (fun k hk => hk)
            rcases h9 with h9 | h9
            · have := HTL.out k h9; omega
            · omega
theorem rset_any (T : Nat → Prop) (w : World) (r : Nat) (keep next : Int) (L D : List OpV) (h : RT T w r keep next L D) (o : OpV) (hL : L.length ≤ 900) (hD : D.length ≤ 900) (hTlt : ∀ k, T k → k < w.heap.size) (hnod : (ids L).Nodup) :
    Calls Try.prog 20 #[.pointer (some ⟨r, 0, none⟩), .agg o.cells.toArray] w (RSetP T w r keep next L D o) := by
  cases hp : placeN L o.id with
  | none => exact rset_no T w r keep next L D h o hL hTlt hp
  | some k => exact rset_yes T w r keep next L D h o hL hD hTlt hnod k hp
end Go.Proofs.Ytddmajgadaooaaa
