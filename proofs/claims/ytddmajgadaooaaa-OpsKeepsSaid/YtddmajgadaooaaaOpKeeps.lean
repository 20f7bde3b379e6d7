/- The walk of the statement on what is kept (printed by genopkeeps.py). -/
import Derived.Test.YtddmajgadaooaaaOpActs
set_option linter.unusedVariables false
set_option linter.unusedSimpArgs false
namespace Go.Proofs.Ytddmajgadaooaaa
open Go.RowKit

/-- A table that stands. -/
def Stood (w wr : World) (t : Nat) (keep next : Int) (L D : List OpV) : Prop :=
  Below w.heap.size w wr ∧ ∃ T : Nat → Prop, (∀ k, T k → w.heap.size ≤ k) ∧ OT T wr t keep next L D
theorem Stood.below' {w wr w' : World} {t : Nat} {keep next : Int} {L D : List OpV} (h : Stood w wr t keep next L D) (hb : Below wr.heap.size wr w') : Stood w w' t keep next L D := by
  obtain ⟨h1, T, h3, h4⟩ := h
  exact ⟨bthen' h1 hb, T, h3, h4.below hb⟩
theorem Stood.turn {w wr w' : World} {t : Nat} {keep n' : Int} {L' D' : List OpV} {T : Nat → Prop} (hb : Below w.heap.size w wr) (hT : ∀ k, T k → w.heap.size ≤ k) (hu : UpdP T wr w') (ho : OT (Gr T wr w') w' t keep n' L' D') : Stood w w' t keep n' L' D' := by
  have h1 := hb.size
  refine ⟨hu.toB hb h1 hT, _, fun k hk => ?_, ho⟩
  rcases hk with hk | hk
  · exact hT k hk
  · omega
def SetT2 (T : Nat → Prop) (w : World) (t : Nat) (keep next : Int) (L D : List OpV) (ok : Bool) (e : Ending) (w' : World) : Prop := e = .returned (.bool ok) ∧ UpdP T w w' ∧ OT (Gr T w w') w' t keep next L D
theorem set_T2 {T : Nat → Prop} {w : World} {t : Nat} {keep next : Int} {L D L9 D9 : List OpV} {okv : Bool} (h : OT T w t keep next L D) (o : OpV) (hk : 1 ≤ keep) (hL : L.length ≤ 900) (hD : D.length ≤ 900) (h0 : (got L o.id).isSome = okv) (h1 : setsL L o = L9) (h2 : setsD keep L D o = D9) :
    Calls Try.prog 15 #[.pointer (some ⟨t, 0, none⟩), .agg o.cells.toArray] w (SetT2 T w t keep next L9 D9 okv) := by
  subst h0 h1 h2
  exact set_T h o hk hL hD
theorem butL_one {L : List OpV} {i : Int} (hn : (ids L).Nodup) {x : OpV} (hx : x ∈ L) (hi : x.id = i) : (butL L i).length + 1 = L.length := by
  induction L with
  | nil => cases hx
  | cons y l ih =>
    have hn' := List.nodup_cons.1 hn
    unfold butL at ih ⊢
    rw [List.filter_cons]
    by_cases h : y.id = i
    · rw [decide_eq_false (by simp [h]), if_neg (by simp)]
      have e : (l.filter fun x => decide (x.id ≠ i)) = l := by
        refine List.filter_eq_self.2 fun z hz => decide_eq_true ?_
        intro e
        exact hn'.1 (by rw [h, ← e]; exact mem_ids hz)
      rw [e]; rfl
    · rw [decide_eq_true h, if_pos rfl]
      rcases List.mem_cons.1 hx with rfl | hx
      · exact absurd hi h
      · have := ih hn'.2 hx
        simp only [List.length_cons]
        omega

set_option maxRecDepth 100000 in
set_option maxHeartbeats 1000000 in
theorem opsKeeps_far (w : World) (keep : Int) (v : Value) (A : List Ac) (hv : Reads acR w v A) (h : 120 < A.length ∨ keep < 1) :
    Calls Try.prog 3 #[.int .i64 keep, v] w fun e w' => e = .returned (.bool true) ∧ Below w.heap.size w w' := by
  obtain ⟨av, capv, rfl⟩ := hv.form
  clear hv
  by_cases hr : keep < 1
  · have KN := Lib.hid (new_none w keep hr)
    clear h
    by_cases h1 : 120 < A.length
    all_goals
      go_enter Try.func3, Try.ntmps3
      go_wp2_with (first
        | (go_at_call 7; refine KN.out.mono ?_; rintro e w' ⟨rfl, rfl⟩)
        | (go_at_call 8; refine (page_any _).mono ?_; rintro e W2 ⟨rfl, hb2⟩))
      go_ret
      exact ⟨rfl, hb2⟩
  · have hr2 : 1 ≤ keep := by omega
    have KN := Lib.hid (new_T w keep hr2)
    have h1 : 120 < A.length := by omega
    clear h
    go_enter Try.func3, Try.ntmps3
    go_wp2_with (first
      | (go_at_call 7; refine KN.out.mono ?_; rintro e W1 ⟨t, rfl, hb1, hT1⟩; clear hT1)
      | (go_at_call 8; refine (page_any _).mono ?_; rintro e W2 ⟨rfl, hb2⟩))
    go_ret
    exact ⟨rfl, bthen' hb1 hb2⟩

set_option maxRecDepth 100000 in
set_option maxHeartbeats 8000000 in
theorem opsKeeps_yes (w : World) (keep : Int) (v : Value) (A : List Ac) (hv : Reads acR w v A) (c1 : A.length ≤ 120) (c3 : 1 ≤ keep) :
    Calls Try.prog 3 #[.int .i64 keep, v] w fun e w' => e = .returned (.bool true) ∧ Below w.heap.size w w' := by
  obtain ⟨av, capv, rfl⟩ := hv.form
  have HV := Lib.hid hv
  have KN := Lib.hid (new_T w keep c3)
  clear hv
  go_enter Try.func3, Try.ntmps3
  go_upto_block 0 with (go_at_call 7; refine KN.out.mono ?_; rintro e W1 ⟨t, rfl, hb1, hT1⟩)
  have HS : Stood w W1 t keep 1 [] [] := ⟨hb1, _, fun k hk => hk.1, hT1⟩
  clear hb1 hT1 KN
  go_wp2_with fail
  go_loopw [6] (fun i wr => ∃ (k : Nat) (nx : Int) (L D : List OpV), k ≤ A.length ∧ L.length ≤ k ∧ D.length ≤ k ∧ 1 ≤ nx ∧ nx ≤ k + 1 ∧ i = .int .i64 k ∧ Stood w wr t keep nx L D) (fun i _ => A.length - (intOf i).toNat)
  case atStart => exact ⟨0, 1, [], [], by omega, by simp, by simp, by omega, by omega, rfl, HS⟩
  case round =>
    clear HS
    obtain ⟨k, nx, L, D, hk, hL, hD, hn1, hn2, rfl, hB⟩ := hrel
    have HB := Lib.hid hB
    by_cases hlt : k < A.length
    · obtain ⟨a, ha⟩ : ∃ a, A[k]? = some a := ⟨_, List.getElem?_eq_getElem hlt⟩
      obtain ⟨b, off, rfl, hr2⟩ := (HV.out.below hB.1).at ha
      obtain ⟨b9, off9, e9, hA9⟩ := HV.out.at ha
      obtain ⟨rfl, rfl⟩ : b = b9 ∧ off = off9 := by simpa using e9
      have HA := Lib.hid hA9
      have HO := Lib.hid (ac_op hr2)
      clear ha hB hA9 e9 hr2
      go_upto_region 8 with (first
        | (refine wpList_load_mid rfl 30 _ rfl b (off + k * 19 + 1) rfl a.o.cells _ HO.out Try.underlying30 rfl (opRow a.o) ?_)
        | (refine wpList_store_row rfl 30 _ _ rfl wr.heap.size a.o.cells.toArray rfl rfl 30 zeroOp.cells.toArray (heap_alloc_new _ _) (opRow' a.o) rfl (opOne a.o) ?_))
      show Code.wp _ _ _ _ ((wr.alloc (.cells zeroOp.cells.toArray 30)).setRow wr.heap.size a.o.cells.toArray)
      have hb3 : Below wr.heap.size wr ((wr.alloc (.cells zeroOp.cells.toArray 30)).setRow wr.heap.size a.o.cells.toArray) := below_row ((Below.refl _ _).alloc (Nat.le_refl _) _) (Nat.le_refl _) _
      have hx3 : Cel ((wr.alloc (.cells zeroOp.cells.toArray 30)).setRow wr.heap.size a.o.cells.toArray) wr.heap.size a.o.cells := cel_of_row (setRow_heap _ _ _ _ _ _ (heap_alloc_new _ _))
      generalize (wr.alloc (.cells zeroOp.cells.toArray 30)).setRow wr.heap.size a.o.cells.toArray = W3 at hb3 hx3 ⊢
      obtain ⟨hW, T, hTlo, hOT⟩ := HB.out
      have hTlt : ∀ k, T k → k < wr.heap.size := hOT.lt
      obtain ⟨b8, hb8⟩ : ∃ b8, b8 = wr.heap.size := ⟨_, rfl⟩
      rw [← hb8] at hx3 hTlt ⊢
      have HTlt := Lib.hid hTlt
      have hlo8 : w.heap.size ≤ b8 := by rw [hb8]; exact hW.size
      have hs3 : b8 < W3.heap.size := hx3.lt (by simp [OpV.cells])
      have HX3 := Lib.hid hx3
      have HB3 := Lib.hid (bthen' hW hb3)
      have HO3 := Lib.hid (hOT.below hb3)
      clear hb3 hx3 HB HO hOT hW hTlt hb8
      have x3 := HX3.out.range
      have KL := Lib.hid (long_any W3 a.o)
      go_upto_if 37 with (first
        | (refine wpList_load_mid rfl 30 _ rfl b8 0 rfl a.o.cells _ x3 Try.underlying30 rfl (opRow a.o) ?_)
        | (go_at_call 9; refine KL.out.mono ?_; rintro e W4 ⟨lg, rfl, hb4⟩))
      have HB4 := Lib.hid (bthen' HB3.out hb4)
      clear KL x3
      cases lg with
      | true =>
        have KV := Lib.hid (page_any W4)
        go_wp2_with (go_at_call 8; refine KV.out.mono ?_; rintro e W5 ⟨rfl, hb5⟩)
        go_ret
        exact ⟨rfl, bthen' HB4.out hb5⟩
      | false =>
        have HX4 := Lib.hid (HX3.out.below hb4)
        have HO4 := Lib.hid (HO3.out.below hb4)
        have hs4 : b8 < W4.heap.size := by have := hb4.size; omega
        have KE := Lib.hid (ended_T HO4.out (by omega))
        clear HX3 HB3 HO3 hb4 hs3
        go_upto_region 11 with (go_at_call 10; refine KE.out.mono ?_; rintro e W5 ⟨v5, rfl, hb5, hv5⟩)
        have HW5 := Lib.hid (Owns.readsN (N := T) hv5 (fun k hk hk2 h9 => by have := HTlt.out k h9; omega))
        obtain ⟨ae, ce, rfl⟩ := HW5.out.form
        have KV := Lib.hid (live_T (HO4.out.below hb5) (by omega))
        clear hv5 KE
        go_upto_region 12 with (go_at_call 11; refine KV.out.mono ?_; rintro e W6 ⟨v6, rfl, hb6, hv6⟩; obtain ⟨a6, c6, rfl⟩ := (hv6.lts opOk).form)
        have hb46 := bthen' hb5 hb6
        have HB6 := Lib.hid (bthen' HB4.out hb46)
        have HX6 := Lib.hid (HX4.out.below hb46)
        have HO6 := Lib.hid (HO4.out.below hb46)
        have HW6 := Lib.hid (HW5.out.updP (UpdP.ofB (P := fun _ => False) hb6) (fun k hk => hk.elim))
        have hs6 : b8 < W6.heap.size := by have := hb46.size; omega
        have hk6 : W6.cell? ⟨b, off + k * 19, none⟩ = some (.int .i64 a.kind) := ac_kind (below_range HB6.out HA.out)
        clear hv6 KV HW5 HB4 HX4 HO4 hb5 hb6 hb46 hs4
        cases e0 : (a.kind == 0) with
        | true =>
          have KX := Lib.hid (next_T HO6.out)
          have f0 := HX6.out.free (i := 0) rfl
          have n0 := HX6.out.get (i := 0) rfl
          go_upto_region 14 with (go_at_call 12; refine KX.out.mono ?_; rintro e w' ⟨rfl, rfl⟩)
          clear f0 n0 hk6 KX
          obtain ⟨o, ho⟩ : ∃ o : OpV, o = { a.o with id := nx } := ⟨_, rfl⟩
          have hX7 : Cel (W6.setCell ⟨b8, 0, none⟩ (.int .i64 nx)) b8 o.cells := by rw [ho]; exact HX6.out.set 0 _
          have hu7 : Upd [b8] W6 (W6.setCell ⟨b8, 0, none⟩ (.int .i64 nx)) := (Upd.refl _ _).setCell (by simp) _
          generalize W6.setCell ⟨b8, 0, none⟩ (.int .i64 nx) = W7 at hX7 hu7 ⊢
          have HO7 := Lib.hid (HO6.out.upd hu7 (fun k hk h9 => by simp at hk; subst hk; have := HTlt.out k h9; omega))
          have HB7 := Lib.hid (hu7.toBelow HB6.out HB6.out.size (by simpa using hlo8))
          have x7 := hX7.range
          have KA := Lib.hid (add_T HO7.out o (by omega) (by omega))
          clear ho hu7
          go_wp2_with (first
            | (refine wpList_load_mid rfl 30 _ rfl b8 0 rfl o.cells _ x7 Try.underlying30 rfl (opRow o) ?_)
            | (go_at_call 13; refine KA.out.mono ?_; rintro e W8 ⟨rfl, hu8, hot8⟩))
          have e1 := addL_len nx L o
          have e2 := addN_le nx o hn1
          go_roundw
          case rel => exact ⟨k + 1, _, _, _, by omega, by omega, by omega, by omega, by omega, by go_num, Stood.turn HB7.out hTlo hu8 hot8⟩
          case measure => simp [intOf]; omega
        | false =>
          have kg := get_T HO6.out a.o.id
          cases hg : got L a.o.id with
          | none =>
            cases hd : got D a.o.id with
            | none =>
              have eg : got (L ++ D) a.o.id = none := by rw [got_app, hg, hd]; rfl
              rw [eg] at kg
              clear eg
              have KG := Lib.hid (show Calls Try.prog 14 #[.pointer (some ⟨t, 0, none⟩), .int .i64 a.o.id] W6 fun e w' => e = .returned (.tuple #[.agg zeroOp.cells.toArray, .bool false]) ∧ Below W6.heap.size W6 w' from kg)
              clear kg
              have n0 := HX6.out.get (i := 0) rfl
              go_upto_region 16 with (first
                | (go_at_call 14; refine KG.out.mono ?_; rintro e W7 ⟨rfl, hb7⟩)
                | (refine wpList_store_row rfl 30 _ _ rfl W7.heap.size zeroOp.cells.toArray rfl rfl 30 zeroOp.cells.toArray (heap_alloc_new _ _) (opRow' zeroOp) rfl (opOne zeroOp) ?_))
              show Code.wp _ _ _ _ ((W7.alloc (.cells zeroOp.cells.toArray 30)).setRow W7.heap.size zeroOp.cells.toArray)
              have hb8' : Below W7.heap.size W7 ((W7.alloc (.cells zeroOp.cells.toArray 30)).setRow W7.heap.size zeroOp.cells.toArray) := below_row ((Below.refl _ _).alloc (Nat.le_refl _) _) (Nat.le_refl _) _
              have hx8 : Cel ((W7.alloc (.cells zeroOp.cells.toArray 30)).setRow W7.heap.size zeroOp.cells.toArray) W7.heap.size zeroOp.cells := cel_of_row (setRow_heap _ _ _ _ _ _ (heap_alloc_new _ _))
              generalize (W7.alloc (.cells zeroOp.cells.toArray 30)).setRow W7.heap.size zeroOp.cells.toArray = W8 at hb8' hx8 ⊢
              have hx8lt : W7.heap.size < W8.heap.size := hx8.lt (by simp [OpV.cells])
              have h67 : W6.heap.size ≤ W7.heap.size := hb7.size
              obtain ⟨b10, hb10⟩ : ∃ b10, b10 = W7.heap.size := ⟨_, rfl⟩
              rw [← hb10] at hx8 hx8lt h67 ⊢
              have hb68 := bthen' hb7 hb8'
              have HB8 := Lib.hid (bthen' HB6.out hb68)
              have HX8 := Lib.hid (HX6.out.below hb68)
              have HO8 := Lib.hid (HO6.out.below hb68)
              have HW8 := Lib.hid (HW6.out.updP (UpdP.ofB (P := fun _ => False) hb68) (fun k hk => hk.elim))
              have HC8 := Lib.hid hx8
              have x8 := HX8.out.range
              clear n0 hk6 KG hb7 hb8' hb68 hx8 hb10 HB6 HX6 HO6 HW6
              have KS := Lib.hid (set_T2 (L9 := L) (D9 := D) (okv := false) HO8.out a.o c3 (by omega) (by omega) (by rw [hg]; rfl) (by unfold setsL; rw [hg]; rfl) (by unfold setsD; rw [hg]; rfl))
              go_upto_region 17 with (first
                | (refine wpList_load_mid rfl 30 _ rfl b8 0 rfl a.o.cells _ x8 Try.underlying30 rfl (opRow a.o) ?_)
                | (go_at_call 15; refine KS.out.mono ?_; rintro e W9 ⟨rfl, hu9, hot9⟩))
              clear x8 KS
              have HX9 := Lib.hid (cel_updP HX8.out hu9 (fun h9 => by have := HTlt.out _ h9; omega) (by omega))
              have HC9 := Lib.hid (cel_updP HC8.out hu9 (fun h9 => by have := HTlt.out _ h9; omega) hx8lt)
              have HW9 := Lib.hid (HW8.out.updP hu9 (fun k hk => hk)).reads
              have HS9 := Lib.hid (Stood.turn HB8.out hTlo hu9 hot9)
              have KV9 := Lib.hid (fun W (hb : Below W9.heap.size W9 W) => live_T (hot9.below hb) (by omega))
              have KE9 := Lib.hid (ended_T hot9 (by omega))
              clear HB8 HX8 HO8 HW8 HC8 hu9 hot9
              have s9 : W9.cell? ⟨b10, 8, none⟩ = some (.int .i64 zeroOp.st) := HC9.out.get (i := 8) rfl
              go_upto_region 19 with fail
              clear s9 HC9
              go_upto_region 20 with (go_at_call 10; refine KE9.out.mono ?_; rintro e W10 ⟨v10, rfl, hb10, hv10⟩; obtain ⟨a10, c10, rfl⟩ := (hv10.lts opOk).form)
              have HV10 := Lib.hid (hv10.lts opOk)
              clear hv10 KE9
              go_upto_region 21 with fail
              have ks := opsame_any W10 _ _ D D (HW9.out.below hb10) HV10.out (by omega)
              rw [decide_eq_true rfl] at ks
              have KQ := Lib.hid ks
              clear ks
              go_wp2_with (first
                | (go_at_call 17; refine KQ.out.mono ?_; rintro e W11 ⟨rfl, hb11⟩; have KV := Lib.hid (KV9.out W11 (bthen' hb10 hb11)))
                | (go_at_call 11; refine KV.out.mono ?_; rintro e W12 ⟨v12, rfl, hb12, hv12⟩; obtain ⟨a12, c12, rfl⟩ := (hv12.lts opOk).form; clear hv12))
              go_roundw
              case rel => exact ⟨k + 1, nx, _, _, by omega, by omega, by omega, by omega, by omega, by go_num, HS9.out.below' (bthen' hb10 (bthen' hb11 hb12))⟩
              case measure => simp [intOf]; omega
            | some y =>
              have eg : got (L ++ D) a.o.id = some y := by rw [got_app, hg, hd]; rfl
              have hty := HO6.out.inv.ended y (got_mem hd).1
              rw [eg] at kg
              clear eg
              have KG := Lib.hid (show Calls Try.prog 14 #[.pointer (some ⟨t, 0, none⟩), .int .i64 a.o.id] W6 fun e w' => e = .returned (.tuple #[.agg y.cells.toArray, .bool true]) ∧ Below W6.heap.size W6 w' from kg)
              clear kg
              have n0 := HX6.out.get (i := 0) rfl
              go_upto_region 16 with (first
                | (go_at_call 14; refine KG.out.mono ?_; rintro e W7 ⟨rfl, hb7⟩)
                | (refine wpList_store_row rfl 30 _ _ rfl W7.heap.size y.cells.toArray rfl rfl 30 zeroOp.cells.toArray (heap_alloc_new _ _) (opRow' y) rfl (opOne y) ?_))
              show Code.wp _ _ _ _ ((W7.alloc (.cells zeroOp.cells.toArray 30)).setRow W7.heap.size y.cells.toArray)
              have hb8' : Below W7.heap.size W7 ((W7.alloc (.cells zeroOp.cells.toArray 30)).setRow W7.heap.size y.cells.toArray) := below_row ((Below.refl _ _).alloc (Nat.le_refl _) _) (Nat.le_refl _) _
              have hx8 : Cel ((W7.alloc (.cells zeroOp.cells.toArray 30)).setRow W7.heap.size y.cells.toArray) W7.heap.size y.cells := cel_of_row (setRow_heap _ _ _ _ _ _ (heap_alloc_new _ _))
              generalize (W7.alloc (.cells zeroOp.cells.toArray 30)).setRow W7.heap.size y.cells.toArray = W8 at hb8' hx8 ⊢
              have hx8lt : W7.heap.size < W8.heap.size := hx8.lt (by simp [OpV.cells])
              have h67 : W6.heap.size ≤ W7.heap.size := hb7.size
              obtain ⟨b10, hb10⟩ : ∃ b10, b10 = W7.heap.size := ⟨_, rfl⟩
              rw [← hb10] at hx8 hx8lt h67 ⊢
              have hb68 := bthen' hb7 hb8'
              have HB8 := Lib.hid (bthen' HB6.out hb68)
              have HX8 := Lib.hid (HX6.out.below hb68)
              have HO8 := Lib.hid (HO6.out.below hb68)
              have HW8 := Lib.hid (HW6.out.updP (UpdP.ofB (P := fun _ => False) hb68) (fun k hk => hk.elim))
              have HC8 := Lib.hid hx8
              have x8 := HX8.out.range
              clear n0 hk6 KG hb7 hb8' hb68 hx8 hb10 HB6 HX6 HO6 HW6
              have KS := Lib.hid (set_T2 (L9 := L) (D9 := D) (okv := false) HO8.out a.o c3 (by omega) (by omega) (by rw [hg]; rfl) (by unfold setsL; rw [hg]; rfl) (by unfold setsD; rw [hg]; rfl))
              go_upto_region 17 with (first
                | (refine wpList_load_mid rfl 30 _ rfl b8 0 rfl a.o.cells _ x8 Try.underlying30 rfl (opRow a.o) ?_)
                | (go_at_call 15; refine KS.out.mono ?_; rintro e W9 ⟨rfl, hu9, hot9⟩))
              clear x8 KS
              have HX9 := Lib.hid (cel_updP HX8.out hu9 (fun h9 => by have := HTlt.out _ h9; omega) (by omega))
              have HC9 := Lib.hid (cel_updP HC8.out hu9 (fun h9 => by have := HTlt.out _ h9; omega) hx8lt)
              have HW9 := Lib.hid (HW8.out.updP hu9 (fun k hk => hk)).reads
              have HS9 := Lib.hid (Stood.turn HB8.out hTlo hu9 hot9)
              have KV9 := Lib.hid (fun W (hb : Below W9.heap.size W9 W) => live_T (hot9.below hb) (by omega))
              have KE9 := Lib.hid (ended_T hot9 (by omega))
              clear HB8 HX8 HO8 HW8 HC8 hu9 hot9
              have s9 : W9.cell? ⟨b10, 8, none⟩ = some (.int .i64 y.st) := HC9.out.get (i := 8) rfl
              have KT := Lib.hid (fun W => rterminal_any y.st W)
              rw [hty] at KT
              go_upto_region 19 with (go_at_call 16; refine (KT.out _).mono ?_; rintro e w' ⟨rfl, rfl⟩)
              clear KT
              clear s9 HC9
              go_upto_region 20 with (go_at_call 10; refine KE9.out.mono ?_; rintro e W10 ⟨v10, rfl, hb10, hv10⟩; obtain ⟨a10, c10, rfl⟩ := (hv10.lts opOk).form)
              have HV10 := Lib.hid (hv10.lts opOk)
              clear hv10 KE9
              go_upto_region 21 with fail
              have ks := opsame_any W10 _ _ D D (HW9.out.below hb10) HV10.out (by omega)
              rw [decide_eq_true rfl] at ks
              have KQ := Lib.hid ks
              clear ks
              go_wp2_with (first
                | (go_at_call 17; refine KQ.out.mono ?_; rintro e W11 ⟨rfl, hb11⟩; have KV := Lib.hid (KV9.out W11 (bthen' hb10 hb11)))
                | (go_at_call 11; refine KV.out.mono ?_; rintro e W12 ⟨v12, rfl, hb12, hv12⟩; obtain ⟨a12, c12, rfl⟩ := (hv12.lts opOk).form; clear hv12))
              go_roundw
              case rel => exact ⟨k + 1, nx, _, _, by omega, by omega, by omega, by omega, by omega, by go_num, HS9.out.below' (bthen' hb10 (bthen' hb11 hb12))⟩
              case measure => simp [intOf]; omega
          | some y =>
            have eg : got (L ++ D) a.o.id = some y := by rw [got_app, hg]; rfl
            have hty := HO6.out.inv.live y (got_mem hg).1
            rw [eg] at kg
            cases hto : term a.o.st with
            | false =>
              have put_len : (putO L a.o).length = L.length := by unfold putO; simp
              clear eg
              have KG := Lib.hid (show Calls Try.prog 14 #[.pointer (some ⟨t, 0, none⟩), .int .i64 a.o.id] W6 fun e w' => e = .returned (.tuple #[.agg y.cells.toArray, .bool true]) ∧ Below W6.heap.size W6 w' from kg)
              clear kg
              have n0 := HX6.out.get (i := 0) rfl
              go_upto_region 16 with (first
                | (go_at_call 14; refine KG.out.mono ?_; rintro e W7 ⟨rfl, hb7⟩)
                | (refine wpList_store_row rfl 30 _ _ rfl W7.heap.size y.cells.toArray rfl rfl 30 zeroOp.cells.toArray (heap_alloc_new _ _) (opRow' y) rfl (opOne y) ?_))
              show Code.wp _ _ _ _ ((W7.alloc (.cells zeroOp.cells.toArray 30)).setRow W7.heap.size y.cells.toArray)
              have hb8' : Below W7.heap.size W7 ((W7.alloc (.cells zeroOp.cells.toArray 30)).setRow W7.heap.size y.cells.toArray) := below_row ((Below.refl _ _).alloc (Nat.le_refl _) _) (Nat.le_refl _) _
              have hx8 : Cel ((W7.alloc (.cells zeroOp.cells.toArray 30)).setRow W7.heap.size y.cells.toArray) W7.heap.size y.cells := cel_of_row (setRow_heap _ _ _ _ _ _ (heap_alloc_new _ _))
              generalize (W7.alloc (.cells zeroOp.cells.toArray 30)).setRow W7.heap.size y.cells.toArray = W8 at hb8' hx8 ⊢
              have hx8lt : W7.heap.size < W8.heap.size := hx8.lt (by simp [OpV.cells])
              have h67 : W6.heap.size ≤ W7.heap.size := hb7.size
              obtain ⟨b10, hb10⟩ : ∃ b10, b10 = W7.heap.size := ⟨_, rfl⟩
              rw [← hb10] at hx8 hx8lt h67 ⊢
              have hb68 := bthen' hb7 hb8'
              have HB8 := Lib.hid (bthen' HB6.out hb68)
              have HX8 := Lib.hid (HX6.out.below hb68)
              have HO8 := Lib.hid (HO6.out.below hb68)
              have HW8 := Lib.hid (HW6.out.updP (UpdP.ofB (P := fun _ => False) hb68) (fun k hk => hk.elim))
              have HC8 := Lib.hid hx8
              have x8 := HX8.out.range
              clear n0 hk6 KG hb7 hb8' hb68 hx8 hb10 HB6 HX6 HO6 HW6
              have KS := Lib.hid (set_T2 (L9 := putO L a.o) (D9 := D) (okv := true) HO8.out a.o c3 (by omega) (by omega) (by rw [hg]; rfl) (by unfold setsL setL; rw [hg, hto]; rfl) (by unfold setsD setDl; rw [hg, hto]; rfl))
              go_upto_region 17 with (first
                | (refine wpList_load_mid rfl 30 _ rfl b8 0 rfl a.o.cells _ x8 Try.underlying30 rfl (opRow a.o) ?_)
                | (go_at_call 15; refine KS.out.mono ?_; rintro e W9 ⟨rfl, hu9, hot9⟩))
              clear x8 KS
              have HX9 := Lib.hid (cel_updP HX8.out hu9 (fun h9 => by have := HTlt.out _ h9; omega) (by omega))
              have HC9 := Lib.hid (cel_updP HC8.out hu9 (fun h9 => by have := HTlt.out _ h9; omega) hx8lt)
              have HW9 := Lib.hid (HW8.out.updP hu9 (fun k hk => hk)).reads
              have HS9 := Lib.hid (Stood.turn HB8.out hTlo hu9 hot9)
              have KV9 := Lib.hid (fun W (hb : Below W9.heap.size W9 W) => live_T (hot9.below hb) (by rw [put_len]; omega))
              have KE9 := Lib.hid (ended_T hot9 (by omega))
              clear HB8 HX8 HO8 HW8 HC8 hu9 hot9
              have s9 : W9.cell? ⟨b10, 8, none⟩ = some (.int .i64 y.st) := HC9.out.get (i := 8) rfl
              have KT := Lib.hid (fun W => rterminal_any y.st W)
              rw [hty] at KT
              go_upto_region 19 with (go_at_call 16; refine (KT.out _).mono ?_; rintro e w' ⟨rfl, rfl⟩)
              clear KT
              clear s9 HC9
              go_upto_region 20 with (go_at_call 10; refine KE9.out.mono ?_; rintro e W10 ⟨v10, rfl, hb10, hv10⟩; obtain ⟨a10, c10, rfl⟩ := (hv10.lts opOk).form)
              have HV10 := Lib.hid (hv10.lts opOk)
              clear hv10 KE9
              have s8 : W10.cell? ⟨b8, 8, none⟩ = some (.int .i64 a.o.st) := (HX9.out.below hb10).get (i := 8) rfl
              have KT := Lib.hid (fun W => rterminal_any a.o.st W)
              rw [hto] at KT
              go_upto_if 84 with (go_at_call 16; refine (KT.out _).mono ?_; rintro e w' ⟨rfl, rfl⟩)
              clear KT s8
              have ks := opsame_any W10 _ _ D D (HW9.out.below hb10) HV10.out (by omega)
              rw [decide_eq_true rfl] at ks
              have KQ := Lib.hid ks
              clear ks
              go_wp2_with (first
                | (go_at_call 17; refine KQ.out.mono ?_; rintro e W11 ⟨rfl, hb11⟩; have KV := Lib.hid (KV9.out W11 (bthen' hb10 hb11)))
                | (go_at_call 11; refine KV.out.mono ?_; rintro e W12 ⟨v12, rfl, hb12, hv12⟩; obtain ⟨a12, c12, rfl⟩ := (hv12.lts opOk).form; clear hv12; rw [put_len]))
              go_roundw
              case rel => exact ⟨k + 1, nx, _, _, by omega, by rw [put_len]; omega, by omega, by omega, by omega, by go_num, HS9.out.below' (bthen' hb10 (bthen' hb11 hb12))⟩
              case measure => simp [intOf]; omega
            | true =>
              have hbl := butL_one HO6.out.inv.nodL (got_mem hg).1 (got_mem hg).2
              clear eg
              have KG := Lib.hid (show Calls Try.prog 14 #[.pointer (some ⟨t, 0, none⟩), .int .i64 a.o.id] W6 fun e w' => e = .returned (.tuple #[.agg y.cells.toArray, .bool true]) ∧ Below W6.heap.size W6 w' from kg)
              clear kg
              have n0 := HX6.out.get (i := 0) rfl
              go_upto_region 16 with (first
                | (go_at_call 14; refine KG.out.mono ?_; rintro e W7 ⟨rfl, hb7⟩)
                | (refine wpList_store_row rfl 30 _ _ rfl W7.heap.size y.cells.toArray rfl rfl 30 zeroOp.cells.toArray (heap_alloc_new _ _) (opRow' y) rfl (opOne y) ?_))
              show Code.wp _ _ _ _ ((W7.alloc (.cells zeroOp.cells.toArray 30)).setRow W7.heap.size y.cells.toArray)
              have hb8' : Below W7.heap.size W7 ((W7.alloc (.cells zeroOp.cells.toArray 30)).setRow W7.heap.size y.cells.toArray) := below_row ((Below.refl _ _).alloc (Nat.le_refl _) _) (Nat.le_refl _) _
              have hx8 : Cel ((W7.alloc (.cells zeroOp.cells.toArray 30)).setRow W7.heap.size y.cells.toArray) W7.heap.size y.cells := cel_of_row (setRow_heap _ _ _ _ _ _ (heap_alloc_new _ _))
              generalize (W7.alloc (.cells zeroOp.cells.toArray 30)).setRow W7.heap.size y.cells.toArray = W8 at hb8' hx8 ⊢
              have hx8lt : W7.heap.size < W8.heap.size := hx8.lt (by simp [OpV.cells])
              have h67 : W6.heap.size ≤ W7.heap.size := hb7.size
              obtain ⟨b10, hb10⟩ : ∃ b10, b10 = W7.heap.size := ⟨_, rfl⟩
              rw [← hb10] at hx8 hx8lt h67 ⊢
              have hb68 := bthen' hb7 hb8'
              have HB8 := Lib.hid (bthen' HB6.out hb68)
              have HX8 := Lib.hid (HX6.out.below hb68)
              have HO8 := Lib.hid (HO6.out.below hb68)
              have HW8 := Lib.hid (HW6.out.updP (UpdP.ofB (P := fun _ => False) hb68) (fun k hk => hk.elim))
              have HC8 := Lib.hid hx8
              have x8 := HX8.out.range
              clear n0 hk6 KG hb7 hb8' hb68 hx8 hb10 HB6 HX6 HO6 HW6
              have KS := Lib.hid (set_T2 (L9 := butL L a.o.id) (D9 := endL keep D a.o) (okv := true) HO8.out a.o c3 (by omega) (by omega) (by rw [hg]; rfl) (by unfold setsL setL; rw [hg, hto]; rfl) (by unfold setsD setDl; rw [hg, hto]; rfl))
              go_upto_region 17 with (first
                | (refine wpList_load_mid rfl 30 _ rfl b8 0 rfl a.o.cells _ x8 Try.underlying30 rfl (opRow a.o) ?_)
                | (go_at_call 15; refine KS.out.mono ?_; rintro e W9 ⟨rfl, hu9, hot9⟩))
              clear x8 KS
              have HX9 := Lib.hid (cel_updP HX8.out hu9 (fun h9 => by have := HTlt.out _ h9; omega) (by omega))
              have HC9 := Lib.hid (cel_updP HC8.out hu9 (fun h9 => by have := HTlt.out _ h9; omega) hx8lt)
              have HW9 := Lib.hid (HW8.out.updP hu9 (fun k hk => hk)).reads
              have HS9 := Lib.hid (Stood.turn HB8.out hTlo hu9 hot9)
              have KV9 := Lib.hid (fun W (hb : Below W9.heap.size W9 W) => live_T (hot9.below hb) (by omega))
              have KE9 := Lib.hid (ended_T hot9 (by have := end_sub keep D a.o; have := this.length_le; simp at this; omega))
              clear HB8 HX8 HO8 HW8 HC8 hu9 hot9
              have s9 : W9.cell? ⟨b10, 8, none⟩ = some (.int .i64 y.st) := HC9.out.get (i := 8) rfl
              have KT := Lib.hid (fun W => rterminal_any y.st W)
              rw [hty] at KT
              go_upto_region 19 with (go_at_call 16; refine (KT.out _).mono ?_; rintro e w' ⟨rfl, rfl⟩)
              clear KT
              clear s9 HC9
              go_upto_region 20 with (go_at_call 10; refine KE9.out.mono ?_; rintro e W10 ⟨v10, rfl, hb10, hv10⟩; obtain ⟨a10, c10, rfl⟩ := (hv10.lts opOk).form)
              have HV10 := Lib.hid (hv10.lts opOk)
              clear hv10 KE9
              have s8 : W10.cell? ⟨b8, 8, none⟩ = some (.int .i64 a.o.st) := (HX9.out.below hb10).get (i := 8) rfl
              have KT := Lib.hid (fun W => rterminal_any a.o.st W)
              rw [hto] at KT
              go_upto_if 84 with (go_at_call 16; refine (KT.out _).mono ?_; rintro e w' ⟨rfl, rfl⟩)
              clear KT s8
              have HVR := Lib.hid (HW9.out.below hb10)
              have HX10 := Lib.hid (HX9.out.below hb10)
              have hneS : Nonempty (Mix.InS (fun z => Below W10.heap.size W10 z)) := ⟨⟨W10, Below.refl _ _⟩⟩
              have RT' := Lib.hid (fun (w' : World) (hx : ∃ x : Mix.InS (fun z => Below W10.heap.size W10 z), w' = x.w) => (show w'.rangeAt b8 0 a.o.cells from by obtain ⟨z, rfl⟩ := hx; exact below_range z.h HX10.out.range))
              go_upto_region 23 with fail
              refine Mix.wp_region_tree (.two [1, 3] 0 (.two [] 2 (.op [] 4 (.op [] 5 (.fin [6]))) 4 (.op [] 2 (.op [] 5 (.fin [6])))) 4 (.op [] 0 (.op [] 2 (.op [] 5 (.fin [6]))))) (fun w' => ∃ x : Mix.InS (fun z => Below W10.heap.size W10 z), w' = x.w) (by kernel_rfl) (by kernel_rfl) (Mix.inS_mk (Below.refl _ _).drew) ?_
              have TT0 := Lib.hid ((Two.start (R := opR) (W0 := W10) (v := .slice ae D.length ce) (L := D) (x := a.o) (v8 := undef) (v9 := undef) (v10 := undef) (v11 := undef) (v12 := undef) (v13 := undef) (show Below W10.heap.size W10 W10.drew from (Below.refl _ _).drew)).step1.step3)
              generalize W10.drew = X0 at TT0 ⊢
              refine Mix.tree_two ?_
              simp only [Mix.pickL, List.getElem?_cons_zero, List.getElem?_cons_succ]
              repeat (first
                | go_big_quiet_skip
                | (go_big_quiet_want; first
                  | (refine quiet_load_mid 30 _ rfl b8 0 rfl a.o.cells _ RT'.out Try.underlying30 rfl (opRow a.o) ?_; simp only [Act.put, List.setIfInBounds_toArray, List.set_cons_succ, List.set_cons_zero]; go_big_quiet_on)
                  | (go_big_quiet_op; go_big_quiet_on)))
              refine wpQuiet_nil ?_
              clear RT' hneS
              refine ⟨?_, ?_⟩
              · go_wp2_with (refine wl_build_none_rec opOk rfl rfl ?_)
                have TT1 := Lib.hid TT0.out.step0
                refine Mix.onward_in (W' := X0.alloc (.cells #[] opR.ty)) TT1.out.below ?_
                generalize X0.alloc (.cells #[] opR.ty) = X1 at TT1 ⊢
                refine Mix.tree_two ?_
                simp only [Mix.pickL, List.getElem?_cons_zero, List.getElem?_cons_succ]
                refine wpQuiet_nil ?_
                refine ⟨?_, ?_⟩
                · go_wp2_with (refine wl_append_all opOk rfl _ _ rfl rfl W10.heap.size _ _ [] D rfl rfl (TT1.out.p0 rfl rfl) (HVR.out.below TT1.out.below) (by simp; omega) TT1.out.below.size ?_; intro ua X2 hOa hga hba)
                  have TT2 := Lib.hid (TT1.out.step2 hOa hga)
                  refine Mix.onward_in (W' := X2) TT2.out.below ?_
                  clear hOa hga hba
                  refine Mix.tree_op ?_
                  simp only [Mix.pickL, List.getElem?_cons_zero, List.getElem?_cons_succ]
                  refine wpQuiet_nil ?_
                  go_wp2_with (refine wl_build_rec opOk rfl _ rfl a.o rfl ?_; have TT3 := Lib.hid TT2.out.step4; generalize X2.alloc (.cells (opR.val a.o).cells opR.ty) = X3 at TT3 ⊢)
                  refine Mix.onward_in (W' := X3) TT3.out.below ?_
                  refine Mix.tree_op ?_
                  simp only [Mix.pickL, List.getElem?_cons_zero, List.getElem?_cons_succ]
                  refine wpQuiet_nil ?_
                  obtain ⟨cx, hcx, hx1, hx2, hx3, -⟩ := TT3.out.p4 rfl rfl
                  cases hcx
                  go_wp2_with (refine wl_append_rec opOk rfl _ _ rfl W10.heap.size _ D rfl (TT3.out.p2 rfl rfl) _ 0 1 a.o rfl hx3 (by omega) TT3.out.below.size ?_; intro gz cz Wz hOz hgz haz)
                  have TZ := Lib.hid (TT3.out.step5 hOz hgz)
                  refine Mix.onward_in (W' := Wz) TZ.out.below ?_
                  clear hOz hgz haz hx1 hx2 hx3
                  refine Mix.tree_fin ?_
                  simp only [Mix.pickL, List.getElem?_cons_zero, List.getElem?_cons_succ]
                  repeat (first
                    | go_big_quiet_skip
                    | (go_big_quiet_want; (go_big_quiet_op; go_big_quiet_on)))
                  refine wpQuiet_nil ?_
                  (try simp only [Act.put])
                  have HOZ := Lib.hid (TZ.out.p5 rfl)
                  have hcap : D.length + 1 ≤ cz := by
                    obtain ⟨a9, c9, e9, hc9⟩ := HOZ.out.capOk
                    simp only [Value.slice.injEq] at e9
                    obtain ⟨_, _, rfl⟩ := e9
                    simpa using hc9
                  have HBZ := Lib.hid TZ.out.below
                  clear TZ
                  have hbz := bthen' hb10 HBZ.out
                  by_cases hroom : keep < (D.length : Int) + 1
                  · have eEnd : endL keep D a.o = (D ++ [a.o]).drop 1 := by unfold endL; rw [if_pos (by simp; omega)]
                    have ha := reads_tailO (HOZ.out.at opOk) (by simp) hcap
                    rw [if_neg (show ¬ cz = 1 by omega)] at ha
                    have HA := Lib.hid ha
                    clear ha
                    have hAl := (ReadsAt.readsN (N := fun _ => False) HA.out (fun _ _ h => h)).reads
                    have ks := opsame_any Wz _ _ (endL keep D a.o) (endL keep D a.o) (HV10.out.below HBZ.out) (by rw [eEnd]; exact hAl) (by rw [eEnd]; simp; omega)
                    rw [decide_eq_true rfl] at ks
                    rw [show (endL keep D a.o).length = D.length from by rw [eEnd]; simp] at ks ⊢
                    have KQ := Lib.hid ks
                    clear ks hAl
                    go_upto_region 26 with fail
                    go_wp2_with (first
                      | (go_at_call 17; refine KQ.out.mono ?_; rintro e W11 ⟨rfl, hb11⟩; have KV := Lib.hid (KV9.out W11 (bthen' hbz hb11)))
                      | (go_at_call 11; refine KV.out.mono ?_; rintro e W12 ⟨v12, rfl, hb12, hv12⟩; obtain ⟨a12, c12, rfl⟩ := (hv12.lts opOk).form; clear hv12))
                    go_roundw
                    case rel => exact ⟨k + 1, nx, _, _, by omega, by omega, by rw [eEnd]; simp; omega, by omega, by omega, by go_num, HS9.out.below' (bthen' hbz (bthen' hb11 hb12))⟩
                    case measure => simp [intOf]; omega
                  · have eEnd : endL keep D a.o = D ++ [a.o] := by unfold endL; rw [if_neg (by simp; omega)]
                    have ks := opsame_any Wz _ _ (endL keep D a.o) (endL keep D a.o) (HV10.out.below HBZ.out) (by rw [eEnd]; exact HOZ.out.lts opOk) (by rw [eEnd]; simp; omega)
                    rw [decide_eq_true rfl] at ks
                    rw [show (endL keep D a.o).length = D.length + 1 from by rw [eEnd]; simp] at ks ⊢
                    have KQ := Lib.hid ks
                    clear ks
                    go_wp2_with (first
                      | (go_at_call 17; refine KQ.out.mono ?_; rintro e W11 ⟨rfl, hb11⟩; have KV := Lib.hid (KV9.out W11 (bthen' hbz hb11)))
                      | (go_at_call 11; refine KV.out.mono ?_; rintro e W12 ⟨v12, rfl, hb12, hv12⟩; obtain ⟨a12, c12, rfl⟩ := (hv12.lts opOk).form; clear hv12))
                    go_roundw
                    case rel => exact ⟨k + 1, nx, _, _, by omega, by omega, by rw [eEnd]; simp; omega, by omega, by omega, by go_num, HS9.out.below' (bthen' hbz (bthen' hb11 hb12))⟩
                    case measure => simp [intOf]; omega
                · go_wp2_with (refine wl_build_rec opOk rfl _ rfl a.o rfl ?_; have TT2 := Lib.hid TT1.out.step4; generalize X1.alloc (.cells (opR.val a.o).cells opR.ty) = X2 at TT2 ⊢)
                  refine Mix.onward_in (W' := X2) TT2.out.below ?_
                  refine Mix.tree_op ?_
                  simp only [Mix.pickL, List.getElem?_cons_zero, List.getElem?_cons_succ]
                  refine wpQuiet_nil ?_
                  go_wp2_with (refine wl_append_all opOk rfl _ _ rfl rfl W10.heap.size _ _ [] D rfl rfl (TT2.out.p0 rfl rfl) (HVR.out.below TT2.out.below) (by simp; omega) TT2.out.below.size ?_; intro ua X3 hOa hga hba)
                  have TT3 := Lib.hid (TT2.out.step2 hOa hga)
                  refine Mix.onward_in (W' := X3) TT3.out.below ?_
                  clear hOa hga hba
                  refine Mix.tree_op ?_
                  simp only [Mix.pickL, List.getElem?_cons_zero, List.getElem?_cons_succ]
                  refine wpQuiet_nil ?_
                  obtain ⟨cx, hcx, hx1, hx2, hx3, -⟩ := TT3.out.p4 rfl rfl
                  cases hcx
                  go_wp2_with (refine wl_append_rec opOk rfl _ _ rfl W10.heap.size _ D rfl (TT3.out.p2 rfl rfl) _ 0 1 a.o rfl hx3 (by omega) TT3.out.below.size ?_; intro gz cz Wz hOz hgz haz)
                  have TZ := Lib.hid (TT3.out.step5 hOz hgz)
                  refine Mix.onward_in (W' := Wz) TZ.out.below ?_
                  clear hOz hgz haz hx1 hx2 hx3
                  refine Mix.tree_fin ?_
                  simp only [Mix.pickL, List.getElem?_cons_zero, List.getElem?_cons_succ]
                  repeat (first
                    | go_big_quiet_skip
                    | (go_big_quiet_want; (go_big_quiet_op; go_big_quiet_on)))
                  refine wpQuiet_nil ?_
                  (try simp only [Act.put])
                  have HOZ := Lib.hid (TZ.out.p5 rfl)
                  have hcap : D.length + 1 ≤ cz := by
                    obtain ⟨a9, c9, e9, hc9⟩ := HOZ.out.capOk
                    simp only [Value.slice.injEq] at e9
                    obtain ⟨_, _, rfl⟩ := e9
                    simpa using hc9
                  have HBZ := Lib.hid TZ.out.below
                  clear TZ
                  have hbz := bthen' hb10 HBZ.out
                  by_cases hroom : keep < (D.length : Int) + 1
                  · have eEnd : endL keep D a.o = (D ++ [a.o]).drop 1 := by unfold endL; rw [if_pos (by simp; omega)]
                    have ha := reads_tailO (HOZ.out.at opOk) (by simp) hcap
                    rw [if_neg (show ¬ cz = 1 by omega)] at ha
                    have HA := Lib.hid ha
                    clear ha
                    have hAl := (ReadsAt.readsN (N := fun _ => False) HA.out (fun _ _ h => h)).reads
                    have ks := opsame_any Wz _ _ (endL keep D a.o) (endL keep D a.o) (HV10.out.below HBZ.out) (by rw [eEnd]; exact hAl) (by rw [eEnd]; simp; omega)
                    rw [decide_eq_true rfl] at ks
                    rw [show (endL keep D a.o).length = D.length from by rw [eEnd]; simp] at ks ⊢
                    have KQ := Lib.hid ks
                    clear ks hAl
                    go_upto_region 26 with fail
                    go_wp2_with (first
                      | (go_at_call 17; refine KQ.out.mono ?_; rintro e W11 ⟨rfl, hb11⟩; have KV := Lib.hid (KV9.out W11 (bthen' hbz hb11)))
                      | (go_at_call 11; refine KV.out.mono ?_; rintro e W12 ⟨v12, rfl, hb12, hv12⟩; obtain ⟨a12, c12, rfl⟩ := (hv12.lts opOk).form; clear hv12))
                    go_roundw
                    case rel => exact ⟨k + 1, nx, _, _, by omega, by omega, by rw [eEnd]; simp; omega, by omega, by omega, by go_num, HS9.out.below' (bthen' hbz (bthen' hb11 hb12))⟩
                    case measure => simp [intOf]; omega
                  · have eEnd : endL keep D a.o = D ++ [a.o] := by unfold endL; rw [if_neg (by simp; omega)]
                    have ks := opsame_any Wz _ _ (endL keep D a.o) (endL keep D a.o) (HV10.out.below HBZ.out) (by rw [eEnd]; exact HOZ.out.lts opOk) (by rw [eEnd]; simp; omega)
                    rw [decide_eq_true rfl] at ks
                    rw [show (endL keep D a.o).length = D.length + 1 from by rw [eEnd]; simp] at ks ⊢
                    have KQ := Lib.hid ks
                    clear ks
                    go_wp2_with (first
                      | (go_at_call 17; refine KQ.out.mono ?_; rintro e W11 ⟨rfl, hb11⟩; have KV := Lib.hid (KV9.out W11 (bthen' hbz hb11)))
                      | (go_at_call 11; refine KV.out.mono ?_; rintro e W12 ⟨v12, rfl, hb12, hv12⟩; obtain ⟨a12, c12, rfl⟩ := (hv12.lts opOk).form; clear hv12))
                    go_roundw
                    case rel => exact ⟨k + 1, nx, _, _, by omega, by omega, by rw [eEnd]; simp; omega, by omega, by omega, by go_num, HS9.out.below' (bthen' hbz (bthen' hb11 hb12))⟩
                    case measure => simp [intOf]; omega
              · go_wp2_with (refine wl_build_rec opOk rfl _ rfl a.o rfl ?_; have TT1 := Lib.hid TT0.out.step4; generalize X0.alloc (.cells (opR.val a.o).cells opR.ty) = X1 at TT1 ⊢)
                refine Mix.onward_in (W' := X1) TT1.out.below ?_
                refine Mix.tree_op ?_
                simp only [Mix.pickL, List.getElem?_cons_zero, List.getElem?_cons_succ]
                refine wpQuiet_nil ?_
                go_wp2_with (refine wl_build_none_rec opOk rfl rfl ?_)
                have TT2 := Lib.hid TT1.out.step0
                refine Mix.onward_in (W' := X1.alloc (.cells #[] opR.ty)) TT2.out.below ?_
                generalize X1.alloc (.cells #[] opR.ty) = X2 at TT2 ⊢
                refine Mix.tree_op ?_
                simp only [Mix.pickL, List.getElem?_cons_zero, List.getElem?_cons_succ]
                refine wpQuiet_nil ?_
                go_wp2_with (refine wl_append_all opOk rfl _ _ rfl rfl W10.heap.size _ _ [] D rfl rfl (TT2.out.p0 rfl rfl) (HVR.out.below TT2.out.below) (by simp; omega) TT2.out.below.size ?_; intro ua X3 hOa hga hba)
                have TT3 := Lib.hid (TT2.out.step2 hOa hga)
                refine Mix.onward_in (W' := X3) TT3.out.below ?_
                clear hOa hga hba
                refine Mix.tree_op ?_
                simp only [Mix.pickL, List.getElem?_cons_zero, List.getElem?_cons_succ]
                refine wpQuiet_nil ?_
                obtain ⟨cx, hcx, hx1, hx2, hx3, -⟩ := TT3.out.p4 rfl rfl
                cases hcx
                go_wp2_with (refine wl_append_rec opOk rfl _ _ rfl W10.heap.size _ D rfl (TT3.out.p2 rfl rfl) _ 0 1 a.o rfl hx3 (by omega) TT3.out.below.size ?_; intro gz cz Wz hOz hgz haz)
                have TZ := Lib.hid (TT3.out.step5 hOz hgz)
                refine Mix.onward_in (W' := Wz) TZ.out.below ?_
                clear hOz hgz haz hx1 hx2 hx3
                refine Mix.tree_fin ?_
                simp only [Mix.pickL, List.getElem?_cons_zero, List.getElem?_cons_succ]
                repeat (first
                  | go_big_quiet_skip
                  | (go_big_quiet_want; (go_big_quiet_op; go_big_quiet_on)))
                refine wpQuiet_nil ?_
                (try simp only [Act.put])
                have HOZ := Lib.hid (TZ.out.p5 rfl)
                have hcap : D.length + 1 ≤ cz := by
                  obtain ⟨a9, c9, e9, hc9⟩ := HOZ.out.capOk
                  simp only [Value.slice.injEq] at e9
                  obtain ⟨_, _, rfl⟩ := e9
                  simpa using hc9
                have HBZ := Lib.hid TZ.out.below
                clear TZ
                have hbz := bthen' hb10 HBZ.out
                by_cases hroom : keep < (D.length : Int) + 1
                · have eEnd : endL keep D a.o = (D ++ [a.o]).drop 1 := by unfold endL; rw [if_pos (by simp; omega)]
                  have ha := reads_tailO (HOZ.out.at opOk) (by simp) hcap
                  rw [if_neg (show ¬ cz = 1 by omega)] at ha
                  have HA := Lib.hid ha
                  clear ha
                  have hAl := (ReadsAt.readsN (N := fun _ => False) HA.out (fun _ _ h => h)).reads
                  have ks := opsame_any Wz _ _ (endL keep D a.o) (endL keep D a.o) (HV10.out.below HBZ.out) (by rw [eEnd]; exact hAl) (by rw [eEnd]; simp; omega)
                  rw [decide_eq_true rfl] at ks
                  rw [show (endL keep D a.o).length = D.length from by rw [eEnd]; simp] at ks ⊢
                  have KQ := Lib.hid ks
                  clear ks hAl
                  go_upto_region 26 with fail
                  go_wp2_with (first
                    | (go_at_call 17; refine KQ.out.mono ?_; rintro e W11 ⟨rfl, hb11⟩; have KV := Lib.hid (KV9.out W11 (bthen' hbz hb11)))
                    | (go_at_call 11; refine KV.out.mono ?_; rintro e W12 ⟨v12, rfl, hb12, hv12⟩; obtain ⟨a12, c12, rfl⟩ := (hv12.lts opOk).form; clear hv12))
                  go_roundw
                  case rel => exact ⟨k + 1, nx, _, _, by omega, by omega, by rw [eEnd]; simp; omega, by omega, by omega, by go_num, HS9.out.below' (bthen' hbz (bthen' hb11 hb12))⟩
                  case measure => simp [intOf]; omega
                · have eEnd : endL keep D a.o = D ++ [a.o] := by unfold endL; rw [if_neg (by simp; omega)]
                  have ks := opsame_any Wz _ _ (endL keep D a.o) (endL keep D a.o) (HV10.out.below HBZ.out) (by rw [eEnd]; exact HOZ.out.lts opOk) (by rw [eEnd]; simp; omega)
                  rw [decide_eq_true rfl] at ks
                  rw [show (endL keep D a.o).length = D.length + 1 from by rw [eEnd]; simp] at ks ⊢
                  have KQ := Lib.hid ks
                  clear ks
                  go_wp2_with (first
                    | (go_at_call 17; refine KQ.out.mono ?_; rintro e W11 ⟨rfl, hb11⟩; have KV := Lib.hid (KV9.out W11 (bthen' hbz hb11)))
                    | (go_at_call 11; refine KV.out.mono ?_; rintro e W12 ⟨v12, rfl, hb12, hv12⟩; obtain ⟨a12, c12, rfl⟩ := (hv12.lts opOk).form; clear hv12))
                  go_roundw
                  case rel => exact ⟨k + 1, nx, _, _, by omega, by omega, by rw [eEnd]; simp; omega, by omega, by omega, by go_num, HS9.out.below' (bthen' hbz (bthen' hb11 hb12))⟩
                  case measure => simp [intOf]; omega
    · go_wp2_with (go_at_call 8; refine (page_any _).mono ?_; rintro e W8 ⟨rfl, hb8⟩)
      go_ret
      exact ⟨rfl, bthen' HB.out.1 hb8⟩

theorem opsKeeps_of (w : World) (keep : Int) (v : Value) (A : List Ac) (hv : Reads acR w v A) :
    Calls Try.prog 3 #[.int .i64 keep, v] w fun e w' => e = .returned (.bool true) ∧ Below w.heap.size w w' := by
  by_cases h : 120 < A.length ∨ keep < 1
  · exact opsKeeps_far w keep v A hv h
  · exact opsKeeps_yes w keep v A hv (by omega) (by omega)
end Go.Proofs.Ytddmajgadaooaaa
