/- A wheel lets a number go. -/
import Derived.Test.YtkbjlpdmmbldpaaWhDel
set_option linter.unusedVariables false
set_option linter.unusedSimpArgs false
set_option maxRecDepth 100000
namespace Go.Proofs.Ytkbjlpdmmbldpaa
open Go.RowKit

theorem got_butT {L : List Tm} (i j : Int) : gotT (butT L i) j = if j = i then none else gotT L j := by
  unfold butT
  by_cases h : j = i
  · rw [if_pos h]
    exact gotT_none.2 (fun x hx e => by have := of_decide_eq_true (List.mem_filter.1 hx).2; exact this (e.trans h))
  · rw [if_neg h]
    unfold gotT
    rw [List.find?_filter]
    congr 1
    funext x
    by_cases hx : x.id = j
    · rw [decide_eq_true hx, decide_eq_true (show x.id ≠ i from fun e => h (hx ▸ e))]; rfl
    · rw [decide_eq_false hx]; simp
theorem atM_but {L : List Tm} (i : Int) : atM (butT L i) = fun j => if j = i then none else atM L j := by
  funext j
  unfold atM
  rw [got_butT]
  split <;> rfl
theorem spM_but {now : Nat} {L : List Tm} (i : Int) : spM now (butT L i) = fun j => if j = i then none else spM now L j := by
  funext j
  unfold spM
  rw [got_butT]
  split <;> rfl
theorem butT_none {L : List Tm} {i : Int} (h : gotT L i = none) : butT L i = L := List.filter_eq_self.2 (fun x hx => decide_eq_true (gotT_none.1 h x hx))
theorem butT_len {L : List Tm} {x : Tm} (hn : (idsT L).Nodup) (hx : x ∈ L) : (butT L x.id).length + 1 = L.length := by
  induction L with
  | nil => cases hx
  | cons y l ih =>
    have hn' := List.nodup_cons.1 hn
    unfold butT at ih ⊢
    rw [List.filter_cons]
    by_cases h : y.id = x.id
    · rw [decide_eq_false (by simp [h]), if_neg (by simp)]
      have e : (l.filter fun z => decide (z.id ≠ x.id)) = l := by
        refine List.filter_eq_self.2 fun z hz => decide_eq_true ?_
        intro e
        exact hn'.1 (by rw [h, ← e]; exact List.mem_map.2 ⟨z, hz, rfl⟩)
      rw [e]; rfl
    · rw [decide_eq_true h, if_pos rfl]
      rcases List.mem_cons.1 hx with rfl | hx
      · exact absurd rfl h
      · have := ih hn'.2 hx
        simp only [List.length_cons]
        omega
theorem cut_mem {L : List Int} {k : Nat} {i : Int} (hn : L.Nodup) (hk : L[k]? = some i) : (L.take k ++ L.drop (k + 1)).Nodup ∧ ∀ j, j ∈ L.take k ++ L.drop (k + 1) ↔ j ∈ L ∧ j ≠ i := by
  obtain ⟨hlt, hi⟩ := List.getElem?_eq_some_iff.1 hk
  have e : L = L.take k ++ i :: L.drop (k + 1) := by rw [← hi, List.getElem_cons_drop, List.take_append_drop]
  rw [e] at hn
  rw [List.nodup_append] at hn
  obtain ⟨n1, n2, n3⟩ := hn
  have n4 := List.nodup_cons.1 n2
  refine ⟨?_, fun j => ?_⟩
  · rw [List.nodup_append]
    exact ⟨n1, n4.2, fun a ha b hb => n3 a ha b (List.mem_cons_of_mem _ hb)⟩
  · conv => rhs; rw [e]
    rw [List.mem_append, List.mem_append, List.mem_cons]
    constructor
    · rintro (h | h)
      · exact ⟨.inl h, fun e2 => n3 j h i List.mem_cons_self e2⟩
      · exact ⟨.inr (.inr h), fun e2 => n4.1 (e2 ▸ h)⟩
    · rintro ⟨h | h | h, hne⟩
      · exact .inl h
      · exact absurd h hne
      · exact .inr h
theorem RowsOk.but {now : Nat} {L : List Tm} {R : Nat → List Int} {x : Tm} {k : Nat} (h : RowsOk now L R) (hn : (idsT L).Nodup) (hx : x ∈ L) (hk : (R (spotN now x.t))[k]? = some x.id) :
    RowsOk now (butT L x.id) (updN R (spotN now x.t) ((R (spotN now x.t)).take k ++ (R (spotN now x.t)).drop (k + 1))) := by
  intro s hs
  obtain ⟨h1, h2⟩ := h s hs
  have hb : ∀ y, y ∈ butT L x.id ↔ y ∈ L ∧ y.id ≠ x.id := fun y => by unfold butT; rw [List.mem_filter]; simp
  have huniq : ∀ y ∈ L, y.id = x.id → y = x := fun y hy e => by
    have a := gotT_of hn hy
    rw [e, gotT_of hn hx] at a
    exact (Option.some.inj a).symm
  by_cases e : s = spotN now x.t
  · subst e
    rw [updN_same]
    obtain ⟨h3, h4⟩ := cut_mem h1 hk
    refine ⟨h3, fun i => ?_⟩
    rw [h4 i, h2 i]
    constructor
    · rintro ⟨⟨y, hy, rfl, h5⟩, hne⟩; exact ⟨y, (hb y).2 ⟨hy, hne⟩, rfl, h5⟩
    · rintro ⟨y, hy, rfl, h5⟩; obtain ⟨hy1, hy2⟩ := (hb y).1 hy; exact ⟨⟨y, hy1, rfl, h5⟩, hy2⟩
  · rw [updN_other _ _ e]
    refine ⟨h1, fun i => ?_⟩
    rw [h2 i]
    constructor
    · rintro ⟨y, hy, rfl, h5⟩
      exact ⟨y, (hb y).2 ⟨hy, fun e2 => e (by rw [huniq y hy e2] at h5; exact h5.symm)⟩, rfl, h5⟩
    · rintro ⟨y, hy, h5⟩; exact ⟨y, ((hb y).1 hy).1, h5⟩
def DropP (T : Nat → Prop) (w : World) (p now : Nat) (L : List Tm) (i : Int) (e : Ending) (w' : World) : Prop :=
  e = .returned (.bool (gotT L i).isSome) ∧ UpdP T w w' ∧ WT (Gr T w w') w' p now (butT L i)
theorem drop_nil (w : World) (i : Int) : Calls Try.prog 19 #[.pointer none, .int .i64 i] w fun e w' => e = .returned (.bool false) ∧ w = w' := by
  go_enter Try.func19, Try.ntmps19
  go_wp2_with fail
  go_ret
  exact ⟨rfl, rfl⟩
theorem wt_gr {T : Nat → Prop} {w w1 w2 : World} (h : UpdP T w w1) (h2 : UpdP T w1 w2) : UpdP T w w2 := h.trans ⟨h2.os, h2.tape, h2.output, h2.size, fun k hk hn => h2.block k hk (fun h9 => hn (.inl h9))⟩

set_option maxHeartbeats 4000000 in
theorem drop_any {T : Nat → Prop} {w : World} {p now : Nat} {L : List Tm} (h : WT T w p now L) (i : Int) (hL : L.length ≤ 100000) :
    Calls Try.prog 19 #[.pointer (some ⟨p, 0, none⟩), .int .i64 i] w (DropP T w p now L i) := by
  have h0 := h
  obtain ⟨h1, h2, h3, m, sm, rv, R, h4, h5⟩ := h
  have c2 := h4.c2
  have HM := Lib.hid h4
  obtain ⟨k2, hsp⟩ := h4.spots
  have HSP := Lib.hid hsp
  cases hg : gotT L i with
  | none =>
    have e0 := Lib.hid hg
    have HV := Lib.hid (show (spM now L i).getD (spotV 0) = .agg #[.int .i64 0, .int .i64 0] ∧ (spM now L i).isSome = false from by unfold spM; rw [hg]; exact ⟨rfl, rfl⟩)
    clear h4 h5 hg hsp
    go_enter Try.func19, Try.ntmps19
    go_upto_if 21 with (first
      | (refine wl_lookupOk intWith rfl _ _ 73 85 rfl Try.underlying73 (z := spotV 0) (fun w => Try.zeroValue85 w) rfl HSP.out i rfl ?_; rw [HV.out.1, HV.out.2])
      | (refine wpList_store_row rfl 85 _ _ rfl w.heap.size #[.int .i64 0, .int .i64 0] rfl rfl 85 #[.int .i64 0, .int .i64 0] (heap_alloc_new _ _) (spotRow _ rfl) rfl (spotOne _ _) ?_))
    have hb : Below w.heap.size w ((w.alloc (.cells #[.int .i64 0, .int .i64 0] 85)).setRow w.heap.size #[.int .i64 0, .int .i64 0]) := below_row ((Below.refl _ _).alloc (Nat.le_refl _) _) (Nat.le_refl _) _
    generalize (w.alloc (.cells #[.int .i64 0, .int .i64 0] 85)).setRow w.heap.size #[.int .i64 0, .int .i64 0] = W1 at hb ⊢
    go_wp2_with fail
    go_ret
    exact ⟨by rw [e0.out]; rfl, UpdP.ofB hb, by rw [butT_none e0.out]; exact h0.same hb⟩
  | some x =>
    obtain ⟨hx, rfl⟩ := gotT_mem hg
    have e0 := Lib.hid hg
    have hs := spotN_lt now x.t
    have hlr := h5.len hs
    have hin : x.id ∈ R (spotN now x.t) := ((h5 _ hs).2 x.id).2 ⟨x, hx, rfl, rfl⟩
    have HB := Lib.hid (fun k (hk : (R (spotN now x.t))[k]? = some x.id) => h5.but h3 hx hk)
    have hspv : spM now L x.id = some (spotV (spotN now x.t)) := by unfold spM; rw [hg]; rfl
    have HA := Lib.hid (show (atM L x.id).isSome = true from by unfold atM; rw [hg]; rfl)
    generalize spotN now x.t = s at hs hlr hin HB hspv
    obtain ⟨lv, sl, hlv6, hsl16, rfl⟩ : ∃ lv sl, lv < 6 ∧ sl < 16 ∧ s = lv * 16 + sl := ⟨s / 16, s % 16, by omega, by omega, by omega⟩
    have hsv : spotV (lv * 16 + sl) = .agg #[.int .i64 (lv : Int), .int .i64 (sl : Int)] := by
      unfold spotV
      rw [show (lv * 16 + sl) / 16 = lv from by omega, show (lv * 16 + sl) % 16 = sl from by omega]
    have HV := Lib.hid (show (spM now L x.id).getD (spotV 0) = .agg #[.int .i64 (lv : Int), .int .i64 (sl : Int)] ∧ (spM now L x.id).isSome = true from by rw [hspv, hsv]; exact ⟨rfl, rfl⟩)
    have HIN := Lib.hid hin
    clear h4 h5 hg hsp hsv hspv hin
    go_enter Try.func19, Try.ntmps19
    go_upto_region 6 with (first
      | (refine wl_lookupOk intWith rfl _ _ 73 85 rfl Try.underlying73 (z := spotV 0) (fun w => Try.zeroValue85 w) rfl HSP.out x.id rfl ?_; rw [HV.out.1, HV.out.2])
      | (refine wpList_store_row rfl 85 _ _ rfl w.heap.size #[.int .i64 (lv : Int), .int .i64 (sl : Int)] rfl rfl 85 #[.int .i64 0, .int .i64 0] (heap_alloc_new _ _) (spotRow _ rfl) rfl (spotOne _ _) ?_))
    have hb2 : Below w.heap.size w ((w.alloc (.cells #[.int .i64 0, .int .i64 0] 85)).setRow w.heap.size #[.int .i64 (lv : Int), .int .i64 (sl : Int)]) := below_row ((Below.refl _ _).alloc (Nat.le_refl _) _) (Nat.le_refl _) _
    have hx2 := setRow_heap (w := w.alloc (.cells #[.int .i64 0, .int .i64 0] 85)) #[.int .i64 (lv : Int), .int .i64 (sl : Int)] (heap_alloc_new w (.cells #[.int .i64 0, .int .i64 0] 85))
    generalize (w.alloc (.cells #[.int .i64 0, .int .i64 0] 85)).setRow w.heap.size #[.int .i64 (lv : Int), .int .i64 (sl : Int)] = W2 at hb2 hx2 ⊢
    have hcx2 : Cel W2 w.heap.size [.int .i64 (lv : Int), .int .i64 (sl : Int)] := cel_of_row hx2
    have x0 := hcx2.get (i := 0) rfl
    have x1 := hcx2.get (i := 1) rfl
    have d0 := fun (z : Later W2) => z.cell x0
    have d1 := fun (z : Later W2) => z.cell x1
    clear x0 x1 hx2 hcx2
    try simp only [Act.put]
    refine wp_region_later (by kernel_rfl) (by kernel_rfl) (Below.refl _ _) ?_
    repeat (first
      | go_big_quiet_skip
      | (go_big_quiet_want; (go_big_quiet_op; go_big_quiet_on)))
    refine wpQuiet_nil ?_
    rintro ⟨W3, hb3⟩
    dsimp only
    clear d0 d1
    have HB3 := Lib.hid (bthen' hb2 hb3)
    have HW3 := Lib.hid (HM.out.below HB3.out)
    clear hb2 hb3 c2 HSP HV
    have cr : W3.cell? ⟨p, 3 + lv * 16 + sl, none⟩ = some (rv (lv * 16 + sl)) := by rw [Nat.add_assoc]; exact HW3.out.row hs
    have fr : W3.frozen? ⟨p, 3 + lv * 16 + sl, none⟩ = false := by rw [Nat.add_assoc]; exact HW3.out.rowFree hs
    have HO3 := Lib.hid (HW3.out.each _ hs)
    have KI := Lib.hid (index_any HO3.out HIN.out (by omega))
    go_upto_region 8 with (go_at_call 48; refine KI.out.mono ?_; rintro e w' ⟨k, rfl, rfl, hk⟩)
    have HK := Lib.hid hk
    have hklt := (List.getElem?_eq_some_iff.1 hk).1
    have kd := delete_any HO3.out hklt (by omega)
    rw [show ((k + 1 : Nat) : Int) = (k : Int) + 1 from by simp] at kd
    have KD := Lib.hid kd
    have HNP := Lib.hid (show (rv (lv * 16 + sl)).ownBlock ≠ some p from fun e => (HW3.out.own _ hs p e).2.1 rfl)
    have HCF := Lib.hid (show W3.cell? ⟨p, 3 + lv * 16 + sl, none⟩ = some (rv (lv * 16 + sl)) ∧ W3.frozen? ⟨p, 3 + lv * 16 + sl, none⟩ = false from ⟨cr, fr⟩)
    clear hk KI kd fr
    go_upto_region 9 with (go_at_call 49; refine KD.out.mono ?_; rintro e W4 ⟨a4, n4, rfl, hv4, hO4, hU4⟩; have f4 : W4.frozen? ⟨p, 3 + lv * 16 + sl, none⟩ = false := (hU4.frozen (fun hin => HNP.out (by simpa using hin)) HCF.out.1).trans HCF.out.2; have c4 : W4.cell? ⟨p, 3 + lv * 16 + sl, none⟩ = some (rv (lv * 16 + sl)) := hU4.cell (fun hin => HNP.out (by simpa using hin)) HCF.out.1; have HO4 := Lib.hid hO4; have HV4 := Lib.hid hv4; have HU4 := Lib.hid hU4; clear hO4 hv4 hU4)
    have hO4 := HO4.out
    have hv4 := HV4.out
    have hU4 := HU4.out
    clear HO4 HV4 HU4
    have hw5 := HW3.out.setRow hs hU4 (fun k hk => .inl (by simpa using hk)) hO4 (fun k hk => .inl (by rw [← hv4]; exact hk))
    rw [← Nat.add_assoc] at hw5
    have hP4 : UpdP T W3 W4 := UpdP.of hU4 (fun k hk => .inl (HW3.out.own _ hs k (by simpa using hk)).1)
    have hS5 : Upd [p] W4 (W4.setCell ⟨p, 3 + lv * 16 + sl, none⟩ (.slice a4 ((R (lv * 16 + sl)).length - 1) n4)) := (Upd.refl _ _).setCell (by simp) _
    have hs34 := hU4.size
    have hw6 := hw5.less (T' := T) (fun k hk => .inl hk) HW3.out.tT (fun s' hs' k2 hk2 => by
      have hh := (hw5.own s' hs' k2 hk2).1
      by_cases e : s' = lv * 16 + sl
      · subst e
        rw [updN_same, hv4] at hk2
        exact (HW3.out.own _ hs k2 hk2).1
      · rw [updN_other _ _ e] at hk2
        exact (HW3.out.own s' hs' k2 hk2).1)
    have HU5 := Lib.hid (wt_gr (UpdP.ofB HB3.out) (wt_gr hP4 (UpdP.of hS5 (fun k hk => by simp at hk; subst hk; exact .inl HW3.out.tT.1))))
    have HW5 := Lib.hid hw6
    generalize W4.setCell ⟨p, 3 + lv * 16 + sl, none⟩ (.slice a4 ((R (lv * 16 + sl)).length - 1) n4) = W5 at HW5 HU5 ⊢
    clear hw5 hw6 hP4 hS5 hU4 hO4 f4 c4 cr KD HNP HCF HO3 HB3 HW3 HM
    have c1 := HW5.out.c1
    go_upto_region 10 with (refine wl_deleteF intWith rfl _ _ 72 22 _ rfl rfl Try.underlying72 rfl HW5.out.ats x.id rfl ?_; intro W6 hu6 hm6)
    have HW6 := Lib.hid (HW5.out.setAts hu6 hm6)
    have HU6 := Lib.hid (wt_gr HU5.out (UpdP.of hu6 (fun k hk => by simp at hk; subst hk; exact .inl HW5.out.tT.2.1)))
    clear c1 hu6 hm6 HW5 HU5
    have c2 := HW6.out.c2
    obtain ⟨k6, hsp6⟩ := HW6.out.spots
    have HSP6 := Lib.hid hsp6
    clear hsp6
    go_wp2_with (refine wl_deleteF intWith rfl _ _ 73 85 _ rfl rfl Try.underlying73 rfl HSP6.out x.id rfl ?_; intro W7 hu7 hm7)
    go_ret
    have hw7 := HW6.out.setSpots hu7 hm7
    have hu := wt_gr HU6.out (UpdP.of hu7 (fun k hk => by simp at hk; subst hk; exact .inl HW6.out.tT.2.2))
    have hln := butT_len h3 hx
    refine ⟨by rw [e0.out]; rfl, hu, h1, fun y hy => h2 y (List.mem_filter.1 hy).1, ?_, m, sm, updN rv (lv * 16 + sl) (.slice a4 ((R (lv * 16 + sl)).length - 1) n4), _, ?_, HB.out k HK.out⟩
    · exact h3.sublist (List.filter_sublist.map _)
    · rw [atM_but, spM_but]
      rw [HA.out, if_pos rfl] at hw7
      rw [show (butT L x.id).length = L.length - 1 from by omega]
      exact hw7.wider (fun k hk => .inl hk) (fun k hk => by
        have hsz := hu.size
        rcases hk with h9 | h9
        · exact hw7.lt k h9
        · exact h9.2)
end Go.Proofs.Ytkbjlpdmmbldpaa
