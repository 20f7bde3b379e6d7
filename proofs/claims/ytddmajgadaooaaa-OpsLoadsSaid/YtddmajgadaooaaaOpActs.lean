/- The walk of the statement on calls (printed by genopacts.py). -/
import Derived.Test.YtddmajgadaooaaaOpIs
import Derived.OpenShut
import Derived.ProofKit
set_option linter.unusedVariables false
set_option linter.unusedSimpArgs false
namespace Go.Proofs.Ytddmajgadaooaaa
open Go.RowKit

/-- A call. -/
structure Ac where
  kind : Int
  o : OpV
def Ac.cells (a : Ac) : List Value := .int .i64 a.kind :: a.o.cells
def acR : Rec Ac := ⟨32, 22, 19, 176, fun a => .agg a.cells.toArray, ⟨0, zeroOp⟩⟩
theorem acR_cells (a : Ac) : acR.cells a = a.cells := rfl
set_option maxRecDepth 100000 in
theorem acOk : acR.Ok where
  pos := by decide
  small := by decide
  bsmall := by decide
  len := fun _ => rfl
  one := by
    intro a v hv
    rw [acR_cells] at hv
    simp only [Ac.cells, OpV.cells, List.mem_cons, List.not_mem_nil, or_false] at hv
    rcases hv with rfl | rfl | rfl | rfl | rfl | rfl | rfl | rfl | rfl | rfl | rfl | rfl | rfl | rfl | rfl | rfl | rfl | rfl | rfl <;> rfl
  slice := Try.underlying22
  info := ⟨_, rfl, rfl, rfl, rfl⟩
  fill := by
    intro y
    rw [show ((Array.range (1 * acR.n)).map (fun x => (acR.val acR.zero).cells[x % (acR.val acR.zero).cells.size]!)) = (Ac.cells ⟨0, zeroOp⟩).toArray from by apply Array.toList_inj.1; rw [Array.toList_map, Array.toList_range]; rfl]
    obtain ⟨kind, id, ten, inv, key, cmd, need, cost, cls, st, a1, a2, a3, code, ep, wk, t1, t2, t3⟩ := y
    kernel_rfl
theorem ac_kind {w : World} {b o : Nat} {a : Ac} (h : w.rangeAt b o (acR.cells a)) : w.cell? ⟨b, o, none⟩ = some (.int .i64 a.kind) := by simpa using h 0 _ rfl
theorem ac_op {w : World} {b o : Nat} {a : Ac} (h : w.rangeAt b o (acR.cells a)) : w.rangeAt b (o + 1) a.o.cells := fun j v hv => by
  have := h (j + 1) v hv
  rw [show o + 1 + j = o + (j + 1) from by omega]
  exact this
theorem cel_of_row {w : World} {b : Nat} {vs : List Value} {t : TypeId} (h : w.heap[b]? = some (.cells vs.toArray t (0, 0))) : Cel w b vs := fun i v hv => by
  refine ⟨?_, by unfold World.frozen?; simp only [h]; simp⟩
  rw [cell_of_row _ b i _ t (0, 0) h]
  simpa using hv

/-- A table, and the document's beside it. -/
def Both (w wr : World) (t r : Nat) (keep next : Int) (L D : List OpV) : Prop :=
  Below w.heap.size w wr ∧ w.heap.size ≤ r ∧ r < wr.heap.size ∧ ∃ T : Nat → Prop, (∀ k, T k → w.heap.size ≤ k) ∧ OT T wr t keep next L D ∧ RT T wr r keep next L D
theorem Both.below' {w wr w' : World} {t r : Nat} {keep next : Int} {L D : List OpV} (h : Both w wr t r keep next L D) (hb : Below wr.heap.size wr w') : Both w w' t r keep next L D := by
  obtain ⟨h1, h2, h2', T, h3, h4, h5⟩ := h
  have := hb.size
  exact ⟨bthen' h1 hb, h2, by omega, T, h3, h4.below hb, h5.below hb⟩
/-- The table has turned. -/
def Half (w wr : World) (t r : Nat) (keep next : Int) (L D : List OpV) (T : Nat → Prop) (n' : Int) (L' D' : List OpV) : Prop :=
  Below w.heap.size w wr ∧ w.heap.size ≤ r ∧ r < wr.heap.size ∧ (∀ k, T k → w.heap.size ≤ k) ∧ OT T wr t keep n' L' D' ∧ RT T wr r keep next L D
theorem Half.start {w wr w' : World} {t r : Nat} {keep next n' : Int} {L D L' D' : List OpV} {T : Nat → Prop} (hb : Below w.heap.size w wr) (hr : w.heap.size ≤ r) (hr2 : r < wr.heap.size) (hT : ∀ k, T k → w.heap.size ≤ k) (hR : RT T wr r keep next L D) (hu : UpdP T wr w') (ho : OT (Gr T wr w') w' t keep n' L' D') :
    Half w w' t r keep next L D (Gr T wr w') n' L' D' := by
  have h1 := hb.size
  have h2 := hu.size
  refine ⟨hu.toB hb h1 hT, hr, by omega, fun k hk => ?_, ho, hR.updP hu⟩
  rcases hk with hk | hk
  · exact hT k hk
  · omega
theorem Half.fin {w wr w' : World} {t r : Nat} {keep next n' : Int} {L D L' D' : List OpV} {T : Nat → Prop} (h : Half w wr t r keep next L D T n' L' D') (hu : Upd [r] wr w') (hR : RT T w' r keep n' L' D') : Both w w' t r keep n' L' D' := by
  obtain ⟨h1, h2, h2', h3, h4, h5⟩ := h
  have hn := hR
  obtain ⟨vl, ve, hc, hnr, hlt, -, -⟩ := hn
  exact ⟨hu.toBelow h1 h1.size (by simpa using h2), h2, hlt, T, h3, h4.upd hu (fun k hk => by simp at hk; subst hk; exact hnr), hR⟩
theorem rt_less {T T' : Nat → Prop} {w : World} {r : Nat} {keep next : Int} {L D : List OpV} (h : RT T' w r keep next L D) (hT : ∀ k, T k → T' k) : RT T w r keep next L D := by
  obtain ⟨vl, ve, hc, hr, hlt, h1, h2⟩ := h
  exact ⟨vl, ve, hc, fun h9 => hr (hT r h9), hlt, h1.other (fun k hk h9 => h9.imp (hT k) id), h2.other (fun k hk h9 => h9.imp (hT k) id)⟩
theorem rt_upd {T T' : Nat → Prop} {w w' : World} {r b8 : Nat} {keep next : Int} {L D : List OpV} (h : RT T' w r keep next L D) (hu : Upd [b8] w w') (hb : T' b8) (hT : ∀ k, T k → T' k) : RT T w' r keep next L D := by
  obtain ⟨vl, ve, hc, hr, hlt, h1, h2⟩ := h
  have hP : UpdP (fun k => k = b8) w w' := UpdP.of hu (by simp)
  have hs := hu.size
  refine ⟨vl, ve, hc.upd hu (by simp; rintro rfl; exact hr hb), fun h9 => hr (hT r h9), by omega, ?_, ?_⟩
  · exact (h1.updP hP (fun k hk => .inl (hk ▸ hb))).other (fun k hk h9 => h9.imp (hT k) id)
  · exact (h2.updP hP (fun k hk => .inl (hk ▸ hb))).other (fun k hk h9 => h9.imp (hT k) id)
/-- Behind a call: the two of them, and the operation's own cells. -/
def Called (w : World) (t r b8 : Nat) (keep : Int) (k : Nat) (wr : World) : Prop :=
  ∃ (next : Int) (L D : List OpV) (o : OpV), L.length ≤ k ∧ D.length ≤ k ∧ 1 ≤ next ∧ next ≤ k + 1 ∧ Both w wr t r keep next L D ∧ Cel wr b8 o.cells
theorem addL_len (next : Int) (L : List OpV) (o : OpV) : (addL next L o).length ≤ L.length + 1 := by unfold addL; split <;> simp
theorem addN_le (next : Int) (o : OpV) (h : 1 ≤ next) : 1 ≤ addN next o ∧ addN next o ≤ next + 1 := by unfold addN; split <;> omega
theorem setsL_len (L : List OpV) (o : OpV) : (setsL L o).length ≤ L.length := by
  unfold setsL setL
  split
  · split
    · exact List.length_filter_le _ _
    · unfold putO; simp
  · exact Nat.le_refl _
theorem setsD_len (keep : Int) (L D : List OpV) (o : OpV) : (setsD keep L D o).length ≤ D.length + 1 := by
  unfold setsD setDl endL
  split
  · split
    · split <;> simp
    · simp
  · simp
theorem cel_updP {T : Nat → Prop} {w w' : World} {b : Nat} {vs : List Value} (h : Cel w b vs) (hu : UpdP T w w') (hb : ¬ T b) (hlt : b < w.heap.size) : Cel w' b vs := cel_of_heap h (hu.block b hlt hb)

set_option maxRecDepth 100000 in
set_option maxHeartbeats 1000000 in
theorem opsActs_far (w : World) (keep : Int) (v : Value) (A : List Ac) (hv : Reads acR w v A) (h : 120 < A.length ∨ keep < 1) :
    Calls Try.prog 4 #[.int .i64 keep, v] w fun e w' => e = .returned (.bool true) ∧ Below w.heap.size w w' := by
  obtain ⟨av, capv, rfl⟩ := hv.form
  clear hv
  by_cases hr : keep < 1
  · have KN := Lib.hid (new_none w keep hr)
    clear h
    by_cases h1 : 120 < A.length
    all_goals
      go_enter Try.func4, Try.ntmps4
      go_wp2_with (first
        | (go_at_call 7; refine KN.out.mono ?_; rintro e w' ⟨rfl, rfl⟩)
        | (go_at_call 8; refine (page_any _).mono ?_; rintro e W2 ⟨rfl, hb2⟩))
      go_ret
      exact ⟨rfl, hb2⟩
  · have hr2 : 1 ≤ keep := by omega
    have KN := Lib.hid (new_T w keep hr2)
    have h1 : 120 < A.length := by omega
    clear h
    go_enter Try.func4, Try.ntmps4
    go_wp2_with (first
      | (go_at_call 7; refine KN.out.mono ?_; rintro e W1 ⟨t, rfl, hb1, hT1⟩; clear hT1)
      | (go_at_call 8; refine (page_any _).mono ?_; rintro e W2 ⟨rfl, hb2⟩))
    go_ret
    exact ⟨rfl, bthen' hb1 hb2⟩
theorem both_start {w W1 : World} {t : Nat} {keep : Int} (hb1 : Below w.heap.size w W1) (hT : OT (fun k => w.heap.size ≤ k ∧ k < W1.heap.size) W1 t keep 1 [] []) :
    Both w (W1.alloc (.cells #[.int .i64 keep, .int .i64 1, .slice none 0 0, .slice none 0 0] 46)) t W1.heap.size keep 1 [] [] := by
  have hb2 : Below W1.heap.size W1 (W1.alloc (.cells #[.int .i64 keep, .int .i64 1, .slice none 0 0, .slice none 0 0] 46)) := (Below.refl _ _).alloc (Nat.le_refl _) _
  refine ⟨bthen' hb1 hb2, hb1.size, by simp, _, fun k hk => hk.1, hT.below hb2, _, _, Cel.new W1 46 [.int .i64 keep, .int .i64 1, .slice none 0 0, .slice none 0 0], fun h => by omega, by simp, .inl ⟨rfl, none, 0, rfl⟩, .inl ⟨rfl, none, 0, rfl⟩⟩

set_option maxRecDepth 100000 in
set_option maxHeartbeats 4000000 in
theorem opsActs_yes (w : World) (keep : Int) (v : Value) (A : List Ac) (hv : Reads acR w v A) (c1 : A.length ≤ 120) (c3 : 1 ≤ keep) :
    Calls Try.prog 4 #[.int .i64 keep, v] w fun e w' => e = .returned (.bool true) ∧ Below w.heap.size w w' := by
  obtain ⟨av, capv, rfl⟩ := hv.form
  have HV := Lib.hid hv
  have KN := Lib.hid (new_T w keep c3)
  clear hv
  go_enter Try.func4, Try.ntmps4
  go_upto_block 0 with (go_at_call 7; refine KN.out.mono ?_; rintro e W1 ⟨t, rfl, hb1, hT1⟩)
  have HS := both_start hb1 hT1
  obtain ⟨r, hre⟩ : ∃ r, r = W1.heap.size := ⟨_, rfl⟩
  rw [← hre] at HS ⊢
  generalize W1.alloc (.cells #[.int .i64 keep, .int .i64 1, .slice none 0 0, .slice none 0 0] 46) = W2 at HS ⊢
  clear hb1 hT1 KN hre
  go_wp2_with fail
  go_loopw [7] (fun i wr => ∃ (k : Nat) (nx : Int) (L D : List OpV), k ≤ A.length ∧ L.length ≤ k ∧ D.length ≤ k ∧ 1 ≤ nx ∧ nx ≤ k + 1 ∧ i = .int .i64 k ∧ Both w wr t r keep nx L D) (fun i _ => A.length - (intOf i).toNat)
  case atStart => exact ⟨0, 1, [], [], by omega, by simp, by simp, by omega, by omega, rfl, HS⟩
  case round =>
    clear HS
    obtain ⟨k, nx, L, D, hk, hL, hD, hn1, hn2, rfl, hB⟩ := hrel
    have HB := Lib.hid hB
    by_cases hlt : k < A.length
    · obtain ⟨a, ha⟩ : ∃ a, A[k]? = some a := ⟨_, List.getElem?_eq_getElem hlt⟩
      obtain ⟨b, off, rfl, hr2⟩ := (HV.out.below hB.1).at ha
      obtain ⟨b9, off9, e9, hA9⟩ := HV.out.at ha
      obtain ⟨rfl, rfl⟩ : b = b9 ∧ off = off9 := by simpa using e9
      have HA := Lib.hid hA9
      have HO := Lib.hid (ac_op hr2)
      clear ha hB hA9 e9 hr2
      go_upto_region 9 with (first
        | (refine wpList_load_mid rfl 30 _ rfl b (off + k * 19 + 1) rfl a.o.cells _ HO.out Try.underlying30 rfl (opRow a.o) ?_)
        | (refine wpList_store_row rfl 30 _ _ rfl wr.heap.size a.o.cells.toArray rfl rfl 30 zeroOp.cells.toArray (heap_alloc_new _ _) (opRow' a.o) rfl (opOne a.o) ?_))
      show Code.wp _ _ _ _ ((wr.alloc (.cells zeroOp.cells.toArray 30)).setRow wr.heap.size a.o.cells.toArray)
      have hb3 : Below wr.heap.size wr ((wr.alloc (.cells zeroOp.cells.toArray 30)).setRow wr.heap.size a.o.cells.toArray) := below_row ((Below.refl _ _).alloc (Nat.le_refl _) _) (Nat.le_refl _) _
      have hx3 : Cel ((wr.alloc (.cells zeroOp.cells.toArray 30)).setRow wr.heap.size a.o.cells.toArray) wr.heap.size a.o.cells := cel_of_row (setRow_heap _ _ _ _ _ _ (heap_alloc_new _ _))
      have hs3 : wr.heap.size < ((wr.alloc (.cells zeroOp.cells.toArray 30)).setRow wr.heap.size a.o.cells.toArray).heap.size := hx3.lt (by simp [OpV.cells])
      generalize (wr.alloc (.cells zeroOp.cells.toArray 30)).setRow wr.heap.size a.o.cells.toArray = W3 at hb3 hx3 hs3 ⊢
      obtain ⟨hW, hrlo, hrhi, T, hTlo, hOT, hRT⟩ := HB.out
      have HTlt := Lib.hid (show ∀ k, T k → k < wr.heap.size from hOT.lt)
      have hT8 : ¬ T wr.heap.size := fun h9 => by have := HTlt.out _ h9; omega
      obtain ⟨b8, hb8⟩ : ∃ b8, b8 = wr.heap.size := ⟨_, rfl⟩
      rw [← hb8] at hx3 hT8 hs3 ⊢
      have hr8 : b8 ≠ r := by omega
      have hlo8 : w.heap.size ≤ b8 := by rw [hb8]; exact hW.size
      have HX3 := Lib.hid hx3
      have HB3 := Lib.hid (bthen' hW hb3)
      have HO3 := Lib.hid (hOT.below hb3)
      have hR3 := hRT.updP (UpdP.ofB hb3)
      obtain ⟨T3, hT3⟩ : ∃ T3, T3 = Gr T wr W3 := ⟨_, rfl⟩
      have h3b : T3 b8 := by rw [hT3]; exact .inr ⟨by omega, hs3⟩
      have h3T : ∀ k, T k → T3 k := fun k hk => by rw [hT3]; exact .inl hk
      rw [← hT3] at hR3
      have HR3 := Lib.hid hR3
      have hr3 : r < W3.heap.size := by have := hb3.size; omega
      clear hb3 hx3 HB HO hOT hRT hR3 hT3 hW hrhi HTlt hb8
      have x3 := HX3.out.range
      have KL := Lib.hid (long_any W3 a.o)
      go_upto_if 42 with (first
        | (refine wpList_load_mid rfl 30 _ rfl b8 0 rfl a.o.cells _ x3 Try.underlying30 rfl (opRow a.o) ?_)
        | (go_at_call 9; refine KL.out.mono ?_; rintro e W4 ⟨lg, rfl, hb4⟩))
      have HB4 := Lib.hid (bthen' HB3.out hb4)
      clear KL x3
      cases lg with
      | true =>
        have KV := Lib.hid (page_any W4)
        go_wp2_with (go_at_call 8; refine KV.out.mono ?_; rintro e W5 ⟨rfl, hb5⟩)
        go_ret
        exact ⟨rfl, bthen' HB4.out hb5⟩
      | false =>
        have HX4 := Lib.hid (HX3.out.below hb4)
        have HO4 := Lib.hid (HO3.out.below hb4)
        have HR4 := Lib.hid (HR3.out.below hb4)
        have hs4 : b8 < W4.heap.size := by have := hb4.size; omega
        have hr4 : r < W4.heap.size := by have := hb4.size; omega
        have hk4 : W4.cell? ⟨b, off + k * 19, none⟩ = some (.int .i64 a.kind) := ac_kind (below_range HB4.out HA.out)
        clear HX3 HB3 HO3 HR3 hb4 hs3 hr3
        go_upto_block 2 with fail
        clear hk4
        go_cut [] (fun wx => Called w t r b8 keep (k + 1) wx)
        case first =>
          cases e0 : (a.kind == 0) with
          | true =>
            obtain ⟨vl, ve, hc, -, -, -, -⟩ := HR4.out
            have m1 := hc.get (i := 1) rfl
            have n0 := HX4.out.get (i := 0) rfl
            have f0 := HX4.out.free (i := 0) rfl
            clear hc
            go_upto_region 16 with fail
            clear m1 n0 f0
            obtain ⟨o, ho⟩ : ∃ o : OpV, o = { a.o with id := nx } := ⟨_, rfl⟩
            have hX5 : Cel (W4.setCell ⟨b8, 0, none⟩ (.int .i64 nx)) b8 o.cells := by rw [ho]; exact HX4.out.set 0 _
            have hu5 : Upd [b8] W4 (W4.setCell ⟨b8, 0, none⟩ (.int .i64 nx)) := (Upd.refl _ _).setCell (by simp) _
            generalize W4.setCell ⟨b8, 0, none⟩ (.int .i64 nx) = W5 at hX5 hu5 ⊢
            have hs5 : b8 < W5.heap.size := by have := hu5.size; omega
            have hr5 : r < W5.heap.size := by have := hu5.size; omega
            have HXa := Lib.hid hX5
            have HOa := Lib.hid (HO4.out.upd hu5 (fun k hk => by simp at hk; subst hk; exact hT8))
            have HRa := Lib.hid (rt_upd HR4.out hu5 h3b h3T)
            have HBa := Lib.hid (hu5.toBelow HB4.out HB4.out.size (by simpa using hlo8))
            clear ho hX5 hu5 HX4 HO4 HR4 HB4
            have hne : Nonempty (Mix.InS (fun x => x.rangeAt b8 0 o.cells)) := ⟨⟨W5, HXa.out.range⟩⟩
            have RB := Lib.hid (fun (w' : World) (hx : ∃ x : Mix.InS (fun x => x.rangeAt b8 0 o.cells), w' = x.w) => (show w'.rangeAt b8 0 o.cells from by obtain ⟨z, rfl⟩ := hx; exact z.h))
            refine Mix.wp_region_mix [([0, 1, 4, 5], 2), ([], 3), ([], 6)] [7] (fun w' => ∃ x : Mix.InS (fun x => x.rangeAt b8 0 o.cells), w' = x.w) (by kernel_rfl) (by kernel_rfl) (Mix.inS_mk (below_range ((Below.refl _ _).drew) HXa.out.range)) ?_
            have hdr : Below W5.heap.size W5 W5.drew := (Below.refl _ _).drew
            have hds := hdr.size
            generalize W5.drew = W6 at hdr hds ⊢
            have KA := Lib.hid (add_T (HOa.out.below hdr) o (by omega) (by omega))
            refine Mix.stages_cons ?_
            simp only [Mix.pickL, List.getElem?_cons_zero, List.getElem?_cons_succ]
            repeat (first
              | go_big_quiet_skip
              | (go_big_quiet_want; first
                | (refine quiet_load_mid 30 _ rfl b8 0 rfl o.cells _ RB.out Try.underlying30 rfl (opRow o) ?_; simp only [Act.put, List.setIfInBounds_toArray, List.set_cons_succ, List.set_cons_zero]; go_big_quiet_on)
                | (go_big_quiet_op; go_big_quiet_on)))
            refine wpQuiet_nil ?_
            go_wp2_with (go_at_call 13; refine KA.out.mono ?_; rintro e W7 ⟨rfl, hu7, hot7⟩)
            have HX7 := Lib.hid (cel_updP (HXa.out.below hdr) hu7 hT8 (by omega))
            have HH7 := Lib.hid (Half.start (bthen' HBa.out hdr) hrlo (by omega) hTlo (HRa.out.below hdr) hu7 hot7)
            have hs7 := hu7.size
            generalize Gr T W6 W7 = T7 at HH7
            clear hu7 hot7 KA
            refine Mix.onward_in HX7.out.range ?_
            refine Mix.stages_cons ?_
            simp only [Mix.pickL, List.getElem?_cons_zero, List.getElem?_cons_succ]
            refine wpQuiet_nil ?_
            go_wp2_with (go_at_call 18; refine (num_any _ _).mono ?_; rintro e w' ⟨rfl, rfl⟩)
            have KR := Lib.hid (radd_any T7 W7 r keep nx L D HH7.out.2.2.2.2.2 o (by omega) (by omega) (HH7.out.2.2.2.2.1.lt))
            refine Mix.onward_in HX7.out.range ?_
            refine Mix.stages_cons ?_
            simp only [Mix.pickL, List.getElem?_cons_zero, List.getElem?_cons_succ]
            refine wpQuiet_nil ?_
            go_wp2_with (go_at_call 19; refine KR.out.mono ?_; rintro e W8 ⟨rfl, hu8, hrt8⟩)
            have HX8 := Lib.hid (HX7.out.upd hu8 (by simpa using hr8))
            have HB8 := Lib.hid (HH7.out.fin hu8 hrt8)
            clear hu8 hrt8 KR
            refine Mix.onward_in HX8.out.range ?_
            refine Mix.stages_nil ?_
            simp only [Mix.pickL, List.getElem?_cons_zero, List.getElem?_cons_succ]
            repeat (first
              | go_big_quiet_skip
              | (go_big_quiet_want; first
                | (refine quiet_load_mid 30 _ rfl b8 0 rfl o.cells _ RB.out Try.underlying30 rfl (opRow o) ?_; simp only [Act.put, List.setIfInBounds_toArray, List.set_cons_succ, List.set_cons_zero]; go_big_quiet_on)
                | (go_big_quiet_op; go_big_quiet_on)))
            refine wpQuiet_nil ?_
            clear hne RB
            go_wp2_with fail
            go_meet
            have e1 := addL_len nx L o
            have e2 := addN_le nx o hn1
            exact ⟨_, _, _, _, by omega, by omega, by omega, by omega, HB8.out, HX8.out⟩
          | false =>
            cases e1 : (a.kind == 1) with
            | true =>
              go_upto_region 19 with fail
              have HXa := HX4
              have HOa := HO4
              have HRa := Lib.hid (rt_less HR4.out h3T)
              have HBa := HB4
              clear HX4 HO4 HR4 HB4
              have hne : Nonempty (Mix.InS (fun x => x.rangeAt b8 0 a.o.cells)) := ⟨⟨W4, HXa.out.range⟩⟩
              have RB := Lib.hid (fun (w' : World) (hx : ∃ x : Mix.InS (fun x => x.rangeAt b8 0 a.o.cells), w' = x.w) => (show w'.rangeAt b8 0 a.o.cells from by obtain ⟨z, rfl⟩ := hx; exact z.h))
              refine Mix.wp_region_mix [([0, 1, 4, 5], 2), ([], 3), ([], 6)] [7] (fun w' => ∃ x : Mix.InS (fun x => x.rangeAt b8 0 a.o.cells), w' = x.w) (by kernel_rfl) (by kernel_rfl) (Mix.inS_mk (below_range ((Below.refl _ _).drew) HXa.out.range)) ?_
              have hdr : Below W4.heap.size W4 W4.drew := (Below.refl _ _).drew
              have hds := hdr.size
              generalize W4.drew = W6 at hdr hds ⊢
              have KA := Lib.hid (add_T (HOa.out.below hdr) a.o (by omega) (by omega))
              refine Mix.stages_cons ?_
              simp only [Mix.pickL, List.getElem?_cons_zero, List.getElem?_cons_succ]
              repeat (first
                | go_big_quiet_skip
                | (go_big_quiet_want; first
                  | (refine quiet_load_mid 30 _ rfl b8 0 rfl a.o.cells _ RB.out Try.underlying30 rfl (opRow a.o) ?_; simp only [Act.put, List.setIfInBounds_toArray, List.set_cons_succ, List.set_cons_zero]; go_big_quiet_on)
                  | (go_big_quiet_op; go_big_quiet_on)))
              refine wpQuiet_nil ?_
              go_wp2_with (go_at_call 13; refine KA.out.mono ?_; rintro e W7 ⟨rfl, hu7, hot7⟩)
              have HX7 := Lib.hid (cel_updP (HXa.out.below hdr) hu7 hT8 (by omega))
              have HH7 := Lib.hid (Half.start (bthen' HBa.out hdr) hrlo (by omega) hTlo (HRa.out.below hdr) hu7 hot7)
              have hs7 := hu7.size
              generalize Gr T W6 W7 = T7 at HH7
              clear hu7 hot7 KA
              refine Mix.onward_in HX7.out.range ?_
              refine Mix.stages_cons ?_
              simp only [Mix.pickL, List.getElem?_cons_zero, List.getElem?_cons_succ]
              refine wpQuiet_nil ?_
              go_wp2_with (go_at_call 18; refine (num_any _ _).mono ?_; rintro e w' ⟨rfl, rfl⟩)
              have KR := Lib.hid (radd_any T7 W7 r keep nx L D HH7.out.2.2.2.2.2 a.o (by omega) (by omega) (HH7.out.2.2.2.2.1.lt))
              refine Mix.onward_in HX7.out.range ?_
              refine Mix.stages_cons ?_
              simp only [Mix.pickL, List.getElem?_cons_zero, List.getElem?_cons_succ]
              refine wpQuiet_nil ?_
              go_wp2_with (go_at_call 19; refine KR.out.mono ?_; rintro e W8 ⟨rfl, hu8, hrt8⟩)
              have HX8 := Lib.hid (HX7.out.upd hu8 (by simpa using hr8))
              have HB8 := Lib.hid (HH7.out.fin hu8 hrt8)
              clear hu8 hrt8 KR
              refine Mix.onward_in HX8.out.range ?_
              refine Mix.stages_nil ?_
              simp only [Mix.pickL, List.getElem?_cons_zero, List.getElem?_cons_succ]
              repeat (first
                | go_big_quiet_skip
                | (go_big_quiet_want; first
                  | (refine quiet_load_mid 30 _ rfl b8 0 rfl a.o.cells _ RB.out Try.underlying30 rfl (opRow a.o) ?_; simp only [Act.put, List.setIfInBounds_toArray, List.set_cons_succ, List.set_cons_zero]; go_big_quiet_on)
                  | (go_big_quiet_op; go_big_quiet_on)))
              refine wpQuiet_nil ?_
              clear hne RB
              go_wp2_with fail
              go_meet
              have e1 := addL_len nx L a.o
              have e2 := addN_le nx a.o hn1
              exact ⟨_, _, _, _, by omega, by omega, by omega, by omega, HB8.out, HX8.out⟩
            | false =>
              go_upto_region 12 with fail
              have HXa := HX4
              have HOa := HO4
              have HRa := Lib.hid (rt_less HR4.out h3T)
              have HBa := HB4
              clear HX4 HO4 HR4 HB4
              have hne : Nonempty (Mix.InS (fun x => x.rangeAt b8 0 a.o.cells)) := ⟨⟨W4, HXa.out.range⟩⟩
              have RB := Lib.hid (fun (w' : World) (hx : ∃ x : Mix.InS (fun x => x.rangeAt b8 0 a.o.cells), w' = x.w) => (show w'.rangeAt b8 0 a.o.cells from by obtain ⟨z, rfl⟩ := hx; exact z.h))
              refine Mix.wp_region_mix [([0, 1, 3, 4], 2), ([], 5)] [6] (fun w' => ∃ x : Mix.InS (fun x => x.rangeAt b8 0 a.o.cells), w' = x.w) (by kernel_rfl) (by kernel_rfl) (Mix.inS_mk (below_range ((Below.refl _ _).drew) HXa.out.range)) ?_
              have hdr : Below W4.heap.size W4 W4.drew := (Below.refl _ _).drew
              have hds := hdr.size
              generalize W4.drew = W6 at hdr hds ⊢
              have KA := Lib.hid (set_T (HOa.out.below hdr) a.o c3 (by omega) (by omega))
              have HIL := Lib.hid HOa.out.inv.nodL
              refine Mix.stages_cons ?_
              simp only [Mix.pickL, List.getElem?_cons_zero, List.getElem?_cons_succ]
              repeat (first
                | go_big_quiet_skip
                | (go_big_quiet_want; first
                  | (refine quiet_load_mid 30 _ rfl b8 0 rfl a.o.cells _ RB.out Try.underlying30 rfl (opRow a.o) ?_; simp only [Act.put, List.setIfInBounds_toArray, List.set_cons_succ, List.set_cons_zero]; go_big_quiet_on)
                  | (go_big_quiet_op; go_big_quiet_on)))
              refine wpQuiet_nil ?_
              go_wp2_with (go_at_call 15; refine KA.out.mono ?_; rintro e W7 ⟨rfl, hu7, hot7⟩)
              have HX7 := Lib.hid (cel_updP (HXa.out.below hdr) hu7 hT8 (by omega))
              have HH7 := Lib.hid (Half.start (bthen' HBa.out hdr) hrlo (by omega) hTlo (HRa.out.below hdr) hu7 hot7)
              have hs7 := hu7.size
              generalize Gr T W6 W7 = T7 at HH7
              clear hu7 hot7 KA
              have KR := Lib.hid (rset_any T7 W7 r keep nx L D HH7.out.2.2.2.2.2 a.o (by omega) (by omega) (HH7.out.2.2.2.2.1.lt) HIL.out)
              refine Mix.onward_in HX7.out.range ?_
              refine Mix.stages_cons ?_
              simp only [Mix.pickL, List.getElem?_cons_zero, List.getElem?_cons_succ]
              refine wpQuiet_nil ?_
              go_wp2_with (go_at_call 20; refine KR.out.mono ?_; rintro e W8 ⟨rfl, hu8, hrt8⟩)
              have HX8 := Lib.hid (HX7.out.upd hu8 (by simpa using hr8))
              have HB8 := Lib.hid (HH7.out.fin hu8 hrt8)
              clear hu8 hrt8 KR
              refine Mix.onward_in HX8.out.range ?_
              refine Mix.stages_nil ?_
              simp only [Mix.pickL, List.getElem?_cons_zero, List.getElem?_cons_succ]
              repeat (first
                | go_big_quiet_skip
                | (go_big_quiet_want; first
                  | (refine quiet_load_mid 30 _ rfl b8 0 rfl a.o.cells _ RB.out Try.underlying30 rfl (opRow a.o) ?_; simp only [Act.put, List.setIfInBounds_toArray, List.set_cons_succ, List.set_cons_zero]; go_big_quiet_on)
                  | (go_big_quiet_op; go_big_quiet_on)))
              refine wpQuiet_nil ?_
              clear hne RB
              go_wp2_with fail
              go_meet
              have e1 := setsL_len L a.o
              have e2 := setsD_len keep L D a.o
              exact ⟨_, _, _, _, by omega, by omega, by omega, by omega, HB8.out, HX8.out⟩
        case rest =>
          clear HX4 HO4 HR4 HB4 hs4 hr4
          obtain ⟨nx2, L2, D2, o2, hL2, hD2, hm1, hm2, hB5, hX5⟩ := hcut
          have HB5 := Lib.hid hB5
          obtain ⟨hW5, -, -, T5, hT5, hO5, hR5⟩ := hB5
          obtain ⟨vl, ve, hc5, -, -, hl5, hd5⟩ := hR5
          have SI := Lib.hid (show SameI T5 wc t keep nx2 L2 D2 vl ve from ⟨hO5, hl5.reads, hd5.reads⟩)
          obtain ⟨al, cl, rfl⟩ := hl5.form
          obtain ⟨ad, cd, rfl⟩ := hd5.form
          have KI := Lib.hid (fun W (hb : Below wc.heap.size wc W) o => is_any T5 W t keep nx2 L2 D2 _ _ (SI.out.below hb) o (by omega) (by omega))
          have hne : Nonempty (Mix.InS (fun z => Below wc.heap.size wc z)) := ⟨⟨wc, Below.refl _ _⟩⟩
          have RR := Lib.hid (fun (w' : World) (hx : ∃ x : Mix.InS (fun z => Below wc.heap.size wc z), w' = x.w) => (show w'.rangeAt r 0 [.int .i64 keep, .int .i64 nx2, .slice al L2.length cl, .slice ad D2.length cd] from by obtain ⟨z, rfl⟩ := hx; exact below_range z.h hc5.range))
          have R8 := Lib.hid (fun (w' : World) (hx : ∃ x : Mix.InS (fun z => Below wc.heap.size wc z), w' = x.w) => (show w'.rangeAt b8 0 o2.cells from by obtain ⟨z, rfl⟩ := hx; exact below_range z.h hX5.range))
          have RA := Lib.hid (fun (w' : World) (hx : ∃ x : Mix.InS (fun z => Below wc.heap.size wc z), w' = x.w) => (show w'.rangeAt b (off + k * 19 + 1) a.o.cells from by obtain ⟨z, rfl⟩ := hx; exact below_range z.h (below_range hW5 (ac_op HA.out))))
          clear hc5 hl5 hd5 hO5 hX5
          go_upto_region 21 with fail
          refine Mix.wp_region_mix [([0, 1, 2, 3, 4], 5), ([6, 7, 8, 9, 10, 11, 12, 13, 14, 15, 16], 17)] [18, 19] (fun w' => ∃ x : Mix.InS (fun z => Below wc.heap.size wc z), w' = x.w) (by kernel_rfl) (by kernel_rfl) (Mix.inS_mk (Below.refl _ _).drew) ?_
          have hd6 := Lib.hid (show Below wc.heap.size wc wc.drew from (Below.refl _ _).drew)
          generalize wc.drew = W6 at hd6 ⊢
          refine Mix.stages_cons ?_
          simp only [Mix.pickL, List.getElem?_cons_zero, List.getElem?_cons_succ]
          repeat (first
            | go_big_quiet_skip
            | (go_big_quiet_want; first
              | (refine quiet_load_mid 46 _ rfl r 0 rfl [.int .i64 keep, .int .i64 nx2, .slice al L2.length cl, .slice ad D2.length cd] _ RR.out Try.underlying46 rfl rtRow ?_; simp only [Act.put, List.setIfInBounds_toArray, List.set_cons_succ, List.set_cons_zero]; go_big_quiet_on)
              | (refine quiet_load_mid 30 _ rfl b8 0 rfl o2.cells _ R8.out Try.underlying30 rfl (opRow o2) ?_; simp only [Act.put, List.setIfInBounds_toArray, List.set_cons_succ, List.set_cons_zero]; go_big_quiet_on)
              | (refine quiet_load_mid 30 _ rfl b (off + k * 19 + 1) rfl a.o.cells _ RA.out Try.underlying30 rfl (opRow a.o) ?_; simp only [Act.put, List.setIfInBounds_toArray, List.set_cons_succ, List.set_cons_zero]; go_big_quiet_on)
              | (go_big_quiet_op; go_big_quiet_on)))
          refine wpQuiet_nil ?_
          go_wp2_with (go_at_call 21; refine (KI.out W6 hd6.out _).mono ?_; rintro e W7 ⟨rfl, hb7⟩)
          have hd7 := Lib.hid (bthen' hd6.out hb7)
          clear hb7
          refine Mix.onward_in hd7.out ?_
          refine Mix.stages_cons ?_
          simp only [Mix.pickL, List.getElem?_cons_zero, List.getElem?_cons_succ]
          repeat (first
            | go_big_quiet_skip
            | (go_big_quiet_want; first
              | (refine quiet_load_mid 46 _ rfl r 0 rfl [.int .i64 keep, .int .i64 nx2, .slice al L2.length cl, .slice ad D2.length cd] _ RR.out Try.underlying46 rfl rtRow ?_; simp only [Act.put, List.setIfInBounds_toArray, List.set_cons_succ, List.set_cons_zero]; go_big_quiet_on)
              | (refine quiet_load_mid 30 _ rfl b8 0 rfl o2.cells _ R8.out Try.underlying30 rfl (opRow o2) ?_; simp only [Act.put, List.setIfInBounds_toArray, List.set_cons_succ, List.set_cons_zero]; go_big_quiet_on)
              | (refine quiet_load_mid 30 _ rfl b (off + k * 19 + 1) rfl a.o.cells _ RA.out Try.underlying30 rfl (opRow a.o) ?_; simp only [Act.put, List.setIfInBounds_toArray, List.set_cons_succ, List.set_cons_zero]; go_big_quiet_on)
              | (go_big_quiet_op; go_big_quiet_on)))
          refine wpQuiet_nil ?_
          go_wp2_with (go_at_call 21; refine (KI.out W7 hd7.out _).mono ?_; rintro e W8 ⟨rfl, hb8⟩)
          have hd8 := Lib.hid (bthen' hd7.out hb8)
          clear hb8
          refine Mix.onward_in hd8.out ?_
          refine Mix.stages_nil ?_
          simp only [Mix.pickL, List.getElem?_cons_zero, List.getElem?_cons_succ]
          repeat (first
            | go_big_quiet_skip
            | (go_big_quiet_want; first
              | (refine quiet_load_mid 46 _ rfl r 0 rfl [.int .i64 keep, .int .i64 nx2, .slice al L2.length cl, .slice ad D2.length cd] _ RR.out Try.underlying46 rfl rtRow ?_; simp only [Act.put, List.setIfInBounds_toArray, List.set_cons_succ, List.set_cons_zero]; go_big_quiet_on)
              | (refine quiet_load_mid 30 _ rfl b8 0 rfl o2.cells _ R8.out Try.underlying30 rfl (opRow o2) ?_; simp only [Act.put, List.setIfInBounds_toArray, List.set_cons_succ, List.set_cons_zero]; go_big_quiet_on)
              | (refine quiet_load_mid 30 _ rfl b (off + k * 19 + 1) rfl a.o.cells _ RA.out Try.underlying30 rfl (opRow a.o) ?_; simp only [Act.put, List.setIfInBounds_toArray, List.set_cons_succ, List.set_cons_zero]; go_big_quiet_on)
              | (go_big_quiet_op; go_big_quiet_on)))
          refine wpQuiet_nil ?_
          clear hne RR R8 RA
          go_wp2_with fail
          go_roundw
          case rel => exact ⟨k + 1, nx2, L2, D2, by omega, hL2, hD2, hm1, by omega, by go_num, HB5.out.below' hd8.out⟩
          case measure => simp [intOf]; omega
    · go_wp2_with (go_at_call 8; refine (page_any _).mono ?_; rintro e W8 ⟨rfl, hb8⟩)
      go_ret
      exact ⟨rfl, bthen' HB.out.1 hb8⟩

theorem opsActs_of (w : World) (keep : Int) (v : Value) (A : List Ac) (hv : Reads acR w v A) :
    Calls Try.prog 4 #[.int .i64 keep, v] w fun e w' => e = .returned (.bool true) ∧ Below w.heap.size w w' := by
  by_cases h : 120 < A.length ∨ keep < 1
  · exact opsActs_far w keep v A hv h
  · exact opsActs_yes w keep v A hv (by omega) (by omega)
end Go.Proofs.Ytddmajgadaooaaa
