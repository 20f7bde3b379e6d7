/- A call, by the due and by the document's. -/
import Derived.Test.YtkbjlpdmmbldpaaDuOrder
set_option linter.unusedVariables false
set_option linter.unusedSimpArgs false
set_option maxRecDepth 100000
namespace Go.Proofs.Ytkbjlpdmmbldpaa
open Go.RowKit

/-- A due, and the document's beside it. -/
def HalfD (w wr : World) (d r now2 : Nat) (M2 : List Tm) (now : Nat) (M : List Tm) (T G : Nat → Prop) : Prop :=
  Below w.heap.size w wr ∧ (∀ k, T k → w.heap.size ≤ k) ∧ (∀ k, G k → w.heap.size ≤ k) ∧ (∀ k, T k → ¬ G k) ∧ DueT T wr d now2 M2 ∧ RW G wr r now M
def BothD (w wr : World) (d r now : Nat) (M : List Tm) : Prop := ∃ T G : Nat → Prop, HalfD w wr d r now M now M T G
theorem HalfD.below' {w wr w' : World} {d r now2 now : Nat} {M2 M : List Tm} {T G : Nat → Prop} (h : HalfD w wr d r now2 M2 now M T G) (hb : Below wr.heap.size wr w') : HalfD w w' d r now2 M2 now M T G := by
  obtain ⟨h1, h2, h3, h4, h5, h6⟩ := h
  exact ⟨bthen' h1 hb, h2, h3, h4, h5.below hb, h6.below hb⟩
theorem BothD.below' {w wr w' : World} {d r now : Nat} {M : List Tm} (h : BothD w wr d r now M) (hb : Below wr.heap.size wr w') : BothD w w' d r now M := by
  obtain ⟨T, G, h1⟩ := h
  exact ⟨T, G, h1.below' hb⟩
theorem BothD.low {w wr : World} {d r now : Nat} {M : List Tm} (h : BothD w wr d r now M) : Below w.heap.size w wr := h.elim fun _ h => h.elim fun _ h => h.1
theorem HalfD.turn {w wr w' : World} {d r now now2 : Nat} {M M2 : List Tm} {T G T' : Nat → Prop} (h : HalfD w wr d r now M now M T G) (hu : UpdP T wr w') (ho : DueT T' w' d now2 M2) (hT' : ∀ k, T' k → Gr T wr w' k) : HalfD w w' d r now2 M2 now M T' G := by
  obtain ⟨h1, h2, h3, h4, h5, h6⟩ := h
  have hs := h1.size
  refine ⟨hu.toB h1 hs h2, fun k hk => ?_, h3, fun k hk h9 => ?_, ho, h6.updP hu h4⟩
  · rcases hT' k hk with h9 | h9
    · exact h2 k h9
    · omega
  · rcases hT' k hk with h8 | h8
    · exact h4 k h8 h9
    · have := h6.lt k h9; omega
theorem HalfD.fin {w wr w' : World} {d r now now2 : Nat} {M M2 : List Tm} {T G G' : Nat → Prop} (h : HalfD w wr d r now2 M2 now M T G) (hu : UpdP G wr w') (ho : RW G' w' r now2 M2) (hG' : ∀ k, G' k → Gr G wr w' k) : BothD w w' d r now2 M2 := by
  obtain ⟨h1, h2, h3, h4, h5, h6⟩ := h
  have hs := h1.size
  refine ⟨T, G', hu.toB h1 hs h3, h2, fun k hk => ?_, fun k hk h9 => ?_, h5.updP hu (fun k hk h9 => h4 k h9 hk), ho⟩
  · rcases hG' k hk with h9 | h9
    · exact h3 k h9
    · omega
  · rcases hG' k h9 with h8 | h8
    · exact h4 k hk h8
    · have := h5.lt k hk; omega
/-- The call's own cells. -/
def Own4 (b8 : Nat) (a : Dc) (x : World) : Prop := x.rangeAt b8 0 (dcR.cells a)
theorem Own4.updP {P : Nat → Prop} {b8 : Nat} {a : Dc} {x x' : World} (h : Own4 b8 a x) (hu : UpdP P x x') (hP : ¬ P b8) : Own4 b8 a x' := by
  have hl := World.block_lt_of_cell? x _ (h 0 _ rfl)
  exact fun i v hv => (World.cell?_of_block (w := x) (hu.block b8 hl hP)).trans (h i v hv)
theorem Own4.below {b8 : Nat} {a : Dc} {x x' : World} (h : Own4 b8 a x) (hb : Below x.heap.size x x') : Own4 b8 a x' := h.updP (P := fun _ => False) (UpdP.ofB hb) (by simp)
theorem Own4.lt {b8 : Nat} {a : Dc} {x : World} (h : Own4 b8 a x) : b8 < x.heap.size := World.block_lt_of_cell? x _ (h 0 _ rfl)
theorem mset2 {T : Nat → Prop} {w : World} {d now : Nat} {M : List Tm} (h : DueT T w d now M) (k i : Int) (t : Nat) (ht : t < 18446744073709551616) (hM : M.length ≤ 20000) :
    Calls Try.prog 27 #[.pointer (some ⟨d, 0, none⟩), .int .i64 k, .int .i64 i, .int .u64 (t : Int)] w fun e w' => e = .returned (.int .i64 (setE k i)) ∧ UpdP T w w' ∧ DueT (Gr T w w') w' d now (dsetT M k i t) := mset h k i t ht hM
theorem rdset2 {G : Nat → Prop} {w : World} {r now : Nat} {M : List Tm} (h : RW G w r now M) (k i : Int) (t : Nat) (hM : M.length ≤ 90000) :
    Calls Try.prog 56 #[.pointer (some ⟨r, 0, none⟩), .int .i64 k, .int .i64 i, .int .u64 (t : Int)] w fun e w' => e = .returned (.int .i64 (setE k i)) ∧ UpdP G w w' ∧ RW (Gr G w w') w' r now (dsetT M k i t) := rdset_any h k i t hM
theorem mfirst_no {T : Nat → Prop} {w : World} {d now : Nat} {M : List Tm} (h : DueT T w d now M) (to2 : Nat) (hto : to2 < 18446744073709551616) (hM : M.length ≤ 20000) (hno : ∀ z ∈ M, to2 < z.t) :
    Calls Try.prog 29 #[.pointer (some ⟨d, 0, none⟩), .int .u64 (to2 : Int)] w fun e w' => e = .returned (.tuple #[timR.val zeroTm, .bool false]) ∧ UpdP T w w' ∧ DueT (Gr T w w') w' d now M := by
  refine (mfirst h to2 hto hM).mono ?_
  rintro e w' (⟨c, rfl, hO⟩ | ⟨n, y, hy, hm, hle, rfl, hO⟩)
  · exact ⟨rfl, hO⟩
  · have := hno y (List.mem_of_getElem? hy); omega
theorem rdfirst_no {G : Nat → Prop} {w : World} {r now : Nat} {M : List Tm} (h : RW G w r now M) (to2 : Nat) (hM : M.length ≤ 90000) (hno : ∀ z ∈ M, to2 < z.t) :
    Calls Try.prog 58 #[.pointer (some ⟨r, 0, none⟩), .int .u64 (to2 : Int)] w fun e w' => e = .returned (.tuple #[timR.val zeroTm, .bool false]) ∧ UpdP G w w' ∧ RW (Gr G w w') w' r now M := by
  refine (rdfirst_any h to2 hM).mono ?_
  rintro e w' (⟨c, rfl, hO⟩ | ⟨n, y, hy, hm, hle, rfl, hO⟩)
  · exact ⟨rfl, hO⟩
  · have := hno y (List.mem_of_getElem? hy); omega
theorem rdfirst_is {G : Nat → Prop} {w : World} {r now : Nat} {M : List Tm} (h : RW G w r now M) (hnod : (M.map fun x => (x.k, x.id)).Nodup) (to2 : Nat) (hM : M.length ≤ 90000) (n : Nat) (y : Tm) (hy : M[n]? = some y) (hm : ∀ z ∈ M, befT z y = false) (hle : y.t ≤ to2) :
    Calls Try.prog 58 #[.pointer (some ⟨r, 0, none⟩), .int .u64 (to2 : Int)] w fun e w' => e = .returned (.tuple #[timR.val y, .bool true]) ∧ UpdP G w w' ∧ RW (Gr G w w') w' r (max now y.t) (M.eraseIdx n) := by
  refine (rdfirst_any h to2 hM).mono ?_
  rintro e w' (⟨c, rfl, hd⟩ | ⟨n2, y2, hy2, hm2, hto2, rfl, hd⟩)
  · exfalso
    rcases c with rfl | ⟨y2, hy2, hm2, h9⟩
    · simp at hy
    · obtain ⟨n2, hn2, he2⟩ := List.mem_iff_getElem.1 hy2
      obtain ⟨-, rfl⟩ := least_one hnod hy hm (by rw [List.getElem?_eq_getElem hn2, he2]) hm2
      omega
  · obtain ⟨rfl, rfl⟩ := least_one hnod hy hm hy2 hm2
    exact ⟨rfl, hd⟩
def goB (to2 m : Nat) (b : Bool) : Bool := decide (¬ (b = true ∧ m ≤ to2))
def goN (now to2 m : Nat) (b : Bool) : Nat := if b = true ∧ m ≤ to2 then now else max now to2
theorem mgo2 {T : Nat → Prop} {w : World} {d now : Nat} {M : List Tm} (h : DueT T w d now M) (to2 : Nat) (hto : to2 < 18446744073709551616) (hM : M.length ≤ 20000) (m : Nat) (b : Bool) (hn : NextIs M m b) :
    Calls Try.prog 31 #[.pointer (some ⟨d, 0, none⟩), .int .u64 (to2 : Int)] w fun e w' => e = .returned (.bool (goB to2 m b)) ∧ UpdP T w w' ∧ DueT (Gr T w w') w' d (goN now to2 m b) M := by
  refine (mgo h to2 hto hM m b hn).mono ?_
  rintro e w' (⟨c, rfl, hO⟩ | ⟨c, rfl, hO⟩)
  · exact ⟨by unfold goB; rw [decide_eq_false (by simpa using c)], by unfold goN; rw [if_pos c]; exact hO⟩
  · exact ⟨by unfold goB; rw [decide_eq_true c], by unfold goN; rw [if_neg c]; exact hO⟩
theorem rdgo2 {G : Nat → Prop} {w : World} {r now : Nat} {M : List Tm} (h : RW G w r now M) (to2 : Nat) (hM : M.length ≤ 90000) (m : Nat) (b : Bool) (hn : NextIs M m b) :
    Calls Try.prog 59 #[.pointer (some ⟨r, 0, none⟩), .int .u64 (to2 : Int)] w fun e w' => e = .returned (.bool (goB to2 m b)) ∧ UpdP G w w' ∧ RW (Gr G w w') w' r (goN now to2 m b) M := by
  refine (rdgo_any h to2 hM m b hn).mono ?_
  rintro e w' (⟨c, rfl, hO⟩ | ⟨c, rfl, hO⟩)
  · exact ⟨by unfold goB; rw [decide_eq_false (by simpa using c)], by unfold goN; rw [if_pos c]; exact hO⟩
  · exact ⟨by unfold goB; rw [decide_eq_true c], by unfold goN; rw [if_neg c]; exact hO⟩
/-- What a call tells of both. -/
def Does (w : World) (d r : Nat) (n : Nat) (e : Ending) (w' : World) : Prop := e = .returned (.bool true) ∧ ∃ (now : Nat) (M : List Tm), M.length ≤ n + 1 ∧ BothD w w' d r now M
set_option maxHeartbeats 8000000 in
theorem does_any {w wr : World} {d r now : Nat} {M : List Tm} (h : BothD w wr d r now M) (a : Dc) (hta : a.t < 18446744073709551616) (hM : M.length ≤ 1000) :
    Calls Try.prog 33 #[.pointer (some ⟨d, 0, none⟩), .pointer (some ⟨r, 0, none⟩), dcR.val a] wr (Does w d r M.length) := by
  have hb1 : Below wr.heap.size wr (wr.alloc (.cells (dcR.cells a).toArray 66)) := (Below.refl _ _).alloc (Nat.le_refl _) _
  have hn1 := heap_alloc_new wr (.cells (dcR.cells a).toArray 66)
  have r1 := row_reads (R := dcR) a hn1
  obtain ⟨W1, hW1⟩ : ∃ W1, W1 = wr.alloc (.cells (dcR.cells a).toArray 66) := ⟨_, rfl⟩
  rw [← hW1] at hb1 r1
  obtain ⟨T, G, hH⟩ := h
  have hT8 : ¬ T wr.heap.size := fun h9 => by have := hH.2.2.2.2.1.lt _ h9; omega
  have hG8 : ¬ G wr.heap.size := fun h9 => by have := hH.2.2.2.2.2.lt _ h9; omega
  obtain ⟨b8, hb8⟩ : ∃ b8, b8 = wr.heap.size := ⟨_, rfl⟩
  rw [← hb8] at r1 hT8 hG8
  have HH := Lib.hid (hH.below' hb1)
  have HO := Lib.hid (show Own4 b8 a W1 from r1)
  obtain ⟨g0, -, -, g3⟩ := dc_parts r1
  clear hb1 hn1 r1 hH
  go_enter Try.func33, Try.ntmps33
  go_upto_region 1 with fail
  show Code.wp _ _ _ _ (wr.alloc (.cells (dcR.cells a).toArray 66))
  rw [← hW1, ← hb8]
  clear hW1 hb8
  have hne : Nonempty (Mix.InS (fun x => Own4 b8 a x)) := ⟨⟨W1, HO.out⟩⟩
  have d1 := fun (z : Mix.InS (fun x => Own4 b8 a x)) => (dc_parts z.h).2.1
  have d2 := fun (z : Mix.InS (fun x => Own4 b8 a x)) => (dc_parts z.h).2.2.1
  have d3 := fun (z : Mix.InS (fun x => Own4 b8 a x)) => (dc_parts z.h).2.2.2
  have hdr : Below W1.heap.size W1 W1.drew := (Below.refl _ _).drew
  have HOD := Lib.hid (HO.out.below hdr)
  have HHD := Lib.hid (HH.out.below' hdr)
  clear hdr
  cases e0 : (a.d == 0) with
  | true =>
    go_upto_region 3 with fail
    clear g0 g3
    refine Mix.wp_region_mix [([0, 1, 2, 3, 4, 5, 6, 9, 10, 11, 12, 13, 14, 15], 7), ([], 8), ([], 16)] [17, 18] (fun w' => ∃ x : Mix.InS (fun x => Own4 b8 a x), w' = x.w) (by kernel_rfl) (by kernel_rfl) (Mix.inS_mk HOD.out) ?_
    generalize W1.drew = W6 at HOD HHD ⊢
    have KA := Lib.hid (mset2 HHD.out.2.2.2.2.1 a.k a.id a.t hta (by omega))
    have hb8w := HOD.out.lt
    refine Mix.stages_cons ?_
    simp only [Mix.pickL, List.getElem?_cons_zero, List.getElem?_cons_succ]
    repeat (first
      | go_big_quiet_skip
      | (go_big_quiet_want; (go_big_quiet_op; go_big_quiet_on)))
    refine wpQuiet_nil ?_
    go_wp2_with (go_at_call 27; refine KA.out.mono ?_; rintro e W7 ⟨rfl, hu7, hot7⟩)
    have HO7 := Lib.hid (HOD.out.updP hu7 hT8)
    have HH7 := Lib.hid (HHD.out.turn hu7 hot7 (fun k hk => hk))
    have KR := Lib.hid (rdset2 HH7.out.2.2.2.2.2 a.k a.id a.t (by omega))
    clear hu7 hot7 KA
    refine Mix.onward_in HO7.out ?_
    refine Mix.stages_cons ?_
    simp only [Mix.pickL, List.getElem?_cons_zero, List.getElem?_cons_succ]
    refine wpQuiet_nil ?_
    go_wp2_with (go_at_call 38; refine (num09_any _ _).mono ?_; rintro e w' ⟨rfl, rfl⟩)
    refine Mix.onward_in HO7.out ?_
    refine Mix.stages_cons ?_
    simp only [Mix.pickL, List.getElem?_cons_zero, List.getElem?_cons_succ]
    refine wpQuiet_nil ?_
    go_wp2_with (go_at_call 56; refine KR.out.mono ?_; rintro e W8 ⟨rfl, hu8, hrt8⟩)
    have HO8 := Lib.hid (HO7.out.updP hu8 hG8)
    have HB8 := Lib.hid (HH7.out.fin hu8 hrt8 (fun k hk => hk))
    have qs : ((setE a.k a.id) == (setE a.k a.id)) = true := by simp
    clear hu8 hrt8 KR
    refine Mix.onward_in HO8.out ?_
    refine Mix.stages_nil ?_
    simp only [Mix.pickL, List.getElem?_cons_zero, List.getElem?_cons_succ]
    repeat (first
      | go_big_quiet_skip
      | (go_big_quiet_want; (go_big_quiet_op; go_big_quiet_on)))
    refine wpQuiet_nil ?_
    clear hne d1 d2 d3 qs
    go_wp2_with fail
    go_ret
    exact ⟨rfl, now, _, dset_len M a.k a.id a.t, HB8.out⟩
  | false =>
    cases e1 : (a.d == 1) with
    | true =>
      go_upto_region 5 with fail
      clear g0 g3
      refine Mix.wp_region_mix [([0, 1, 2, 3, 4, 6, 7, 8, 9, 10], 5), ([], 11)] [12, 13] (fun w' => ∃ x : Mix.InS (fun x => Own4 b8 a x), w' = x.w) (by kernel_rfl) (by kernel_rfl) (Mix.inS_mk HOD.out) ?_
      generalize W1.drew = W6 at HOD HHD ⊢
      have KA := Lib.hid (mclear HHD.out.2.2.2.2.1 a.k a.id (by omega))
      have hb8w := HOD.out.lt
      refine Mix.stages_cons ?_
      simp only [Mix.pickL, List.getElem?_cons_zero, List.getElem?_cons_succ]
      repeat (first
        | go_big_quiet_skip
        | (go_big_quiet_want; (go_big_quiet_op; go_big_quiet_on)))
      refine wpQuiet_nil ?_
      go_wp2_with (go_at_call 39; refine KA.out.mono ?_; rintro e W7 ⟨rfl, hu7, hot7⟩)
      have HO7 := Lib.hid (HOD.out.updP hu7 hT8)
      have HH7 := Lib.hid (HHD.out.turn hu7 hot7 (fun k hk => hk))
      have KR := Lib.hid (rdclear_any HH7.out.2.2.2.2.2 a.k a.id (by omega))
      clear hu7 hot7 KA
      refine Mix.onward_in HO7.out ?_
      refine Mix.stages_cons ?_
      simp only [Mix.pickL, List.getElem?_cons_zero, List.getElem?_cons_succ]
      refine wpQuiet_nil ?_
      go_wp2_with (go_at_call 57; refine KR.out.mono ?_; rintro e W8 ⟨rfl, hu8, hrt8⟩)
      have HO8 := Lib.hid (HO7.out.updP hu8 hG8)
      have HB8 := Lib.hid (HH7.out.fin hu8 hrt8 (fun k hk => hk))
      have qs : (decide (0 ≤ plcT M a.k a.id) == decide (0 ≤ plcT M a.k a.id)) = true := by simp
      clear hu8 hrt8 KR
      refine Mix.onward_in HO8.out ?_
      refine Mix.stages_nil ?_
      simp only [Mix.pickL, List.getElem?_cons_zero, List.getElem?_cons_succ]
      repeat (first
        | go_big_quiet_skip
        | (go_big_quiet_want; (go_big_quiet_op; go_big_quiet_on)))
      refine wpQuiet_nil ?_
      clear hne d1 d2 d3 qs
      go_wp2_with fail
      go_ret
      exact ⟨rfl, now, _, Nat.le_succ_of_le (clr_len M a.k a.id), HB8.out⟩
    | false =>
      cases e2 : (a.d == 2) with
      | true =>
        clear hne d1 d2 d3 HOD HHD
        by_cases hno : ∀ z ∈ M, a.t < z.t
        · skip
          have KA := Lib.hid (mfirst_no HH.out.2.2.2.2.1 a.t hta (by omega) hno)
          have HNO := Lib.hid hno
          clear hno
          have HOK := Lib.hid HO.out
          go_upto_region 8 with (first
            | (go_at_call 29; refine KA.out.mono ?_; rintro e W4 ⟨rfl, hu4, hot4⟩)
            | (refine wpList_store_mid rfl 54 _ _ rfl W4.heap.size 0 (timR.cells zeroTm).toArray rfl rfl (freshR_there timOk W4 zeroTm) (timOk.row' zeroTm) (timOk.one' zeroTm) ?_; show wpList _ _ _ _ _ (freshR timR W4 zeroTm); have hx5 := freshR_range timOk W4 zeroTm; have hb5 := freshR_below (R := timR) W4 zeroTm; generalize freshR timR W4 zeroTm = W5 at hx5 hb5 ⊢))
          have HH5 := Lib.hid ((HH.out.turn hu4 hot4 (fun k hk => hk)).below' hb5)
          have HO5 := Lib.hid ((HO.out.updP hu4 hT8).below hb5)
          have g5 := (dc_parts HO5.out).2.2.2
          have hs4 := hu4.size
          have hGl := HH.out.2.2.2.2.2.lt
          obtain ⟨b5, hb5e⟩ : ∃ b5, b5 = W4.heap.size := ⟨_, rfl⟩
          have hG5 : ¬ G b5 := fun h9 => by have := hGl _ h9; omega
          have hl5 : b5 < W5.heap.size := by rw [hb5e]; exact World.block_lt_of_cell? W5 _ (hx5 0 _ rfl)
          rw [← hb5e] at hx5 ⊢
          have HX5 := Lib.hid hx5
          have KR := Lib.hid (rdfirst_no HH5.out.2.2.2.2.2 a.t (by omega) HNO.out)
          clear hu4 hot4 hb5 hx5 hb5e KA HH HO hs4 g0 g3
          go_upto_region 9 with (first
            | (go_at_call 58; refine KR.out.mono ?_; rintro e W6 ⟨rfl, hu6, hr6⟩)
            | (refine wpList_store_mid rfl 54 _ _ rfl W6.heap.size 0 (timR.cells zeroTm).toArray rfl rfl (freshR_there timOk W6 zeroTm) (timOk.row' zeroTm) (timOk.one' zeroTm) ?_; show wpList _ _ _ _ _ (freshR timR W6 zeroTm); have hx7 := freshR_range timOk W6 zeroTm; have hb7 := freshR_below (R := timR) W6 zeroTm; generalize freshR timR W6 zeroTm = W7 at hx7 hb7 ⊢))
          have HB7 := Lib.hid ((HH5.out.fin hu6 hr6 (fun k hk => hk)).below' hb7)
          have hx57 : W7.rangeAt b5 0 (timR.cells zeroTm) := below_range hb7 (fun i v hv => (World.cell?_of_block (w := W5) (hu6.block b5 hl5 hG5)).trans (HX5.out i v hv))
          have hsame : ∀ w : World, (Op.equalIn (9998 + 2) 54 (.agg (timR.cells zeroTm).toArray) (.agg (timR.cells zeroTm).toArray)).run Try.prog w = .ok (decide (zeroTm = zeroTm)) w := fun w => tm_eq 9998 zeroTm zeroTm w
          have hguard := tmGuard
          clear hu6 hr6 hb7 KR HX5
          go_wp2_with (first
            | (refine wpList_load_mid rfl 54 _ rfl b5 0 rfl (timR.cells zeroTm) _ hx57 Try.underlying54 rfl (timOk.row zeroTm) ?_)
            | (refine wpList_load_mid rfl 54 _ rfl W6.heap.size 0 rfl (timR.cells zeroTm) _ hx7 Try.underlying54 rfl (timOk.row zeroTm) ?_))
          go_ret
          exact ⟨rfl, now, M, Nat.le_succ _, HB7.out⟩
        · have hne2 : M ≠ [] := fun e => hno (by rw [e]; simp)
          obtain ⟨n, y, hy, hmin⟩ := least_ex M hne2
          have hle : y.t ≤ a.t := by
            rcases Nat.lt_or_ge a.t y.t with h9 | h9
            · exfalso
              exact hno fun z hz => Nat.lt_of_lt_of_le h9 (bef_min hmin z hz)
            · exact h9
          have KA := Lib.hid (mfirst_is HH.out.2.2.2.2.1 a.t hta (by omega) n y hy hmin hle)
          have HYY := Lib.hid hy
          have HMIN := Lib.hid hmin
          have HNOD := Lib.hid HH.out.2.2.2.2.1.nod
          have HLE := Lib.hid hle
          clear hno hne2 hy hmin hle
          have HOK := Lib.hid HO.out
          go_upto_region 8 with (first
            | (go_at_call 29; refine KA.out.mono ?_; rintro e W4 ⟨rfl, hu4, hot4⟩)
            | (refine wpList_store_mid rfl 54 _ _ rfl W4.heap.size 0 (timR.cells y).toArray rfl rfl (freshR_there timOk W4 y) (timOk.row' y) (timOk.one' y) ?_; show wpList _ _ _ _ _ (freshR timR W4 y); have hx5 := freshR_range timOk W4 y; have hb5 := freshR_below (R := timR) W4 y; generalize freshR timR W4 y = W5 at hx5 hb5 ⊢))
          have HH5 := Lib.hid ((HH.out.turn hu4 hot4 (fun k hk => hk)).below' hb5)
          have HO5 := Lib.hid ((HO.out.updP hu4 hT8).below hb5)
          have g5 := (dc_parts HO5.out).2.2.2
          have hs4 := hu4.size
          have hGl := HH.out.2.2.2.2.2.lt
          obtain ⟨b5, hb5e⟩ : ∃ b5, b5 = W4.heap.size := ⟨_, rfl⟩
          have hG5 : ¬ G b5 := fun h9 => by have := hGl _ h9; omega
          have hl5 : b5 < W5.heap.size := by rw [hb5e]; exact World.block_lt_of_cell? W5 _ (hx5 0 _ rfl)
          rw [← hb5e] at hx5 ⊢
          have HX5 := Lib.hid hx5
          have KR := Lib.hid (rdfirst_is HH5.out.2.2.2.2.2 HNOD.out a.t (by omega) n y HYY.out HMIN.out HLE.out)
          clear hu4 hot4 hb5 hx5 hb5e KA HH HO hs4 g0 g3
          go_upto_region 9 with (first
            | (go_at_call 58; refine KR.out.mono ?_; rintro e W6 ⟨rfl, hu6, hr6⟩)
            | (refine wpList_store_mid rfl 54 _ _ rfl W6.heap.size 0 (timR.cells y).toArray rfl rfl (freshR_there timOk W6 y) (timOk.row' y) (timOk.one' y) ?_; show wpList _ _ _ _ _ (freshR timR W6 y); have hx7 := freshR_range timOk W6 y; have hb7 := freshR_below (R := timR) W6 y; generalize freshR timR W6 y = W7 at hx7 hb7 ⊢))
          have HB7 := Lib.hid ((HH5.out.fin hu6 hr6 (fun k hk => hk)).below' hb7)
          have hx57 : W7.rangeAt b5 0 (timR.cells y) := below_range hb7 (fun i v hv => (World.cell?_of_block (w := W5) (hu6.block b5 hl5 hG5)).trans (HX5.out i v hv))
          have hsame : ∀ w : World, (Op.equalIn (9998 + 2) 54 (.agg (timR.cells y).toArray) (.agg (timR.cells y).toArray)).run Try.prog w = .ok (decide (y = y)) w := fun w => tm_eq 9998 y y w
          have hguard := tmGuard
          clear hu6 hr6 hb7 KR HX5
          go_wp2_with (first
            | (refine wpList_load_mid rfl 54 _ rfl b5 0 rfl (timR.cells y) _ hx57 Try.underlying54 rfl (timOk.row y) ?_)
            | (refine wpList_load_mid rfl 54 _ rfl W6.heap.size 0 rfl (timR.cells y) _ hx7 Try.underlying54 rfl (timOk.row y) ?_))
          go_ret
          exact ⟨rfl, _, _, by have := erase_len M n; omega, HB7.out⟩
      | false =>
        obtain ⟨m, bb, hn⟩ := next_is M
        have HNX := Lib.hid hn
        clear hn
        go_upto_region 10 with fail
        clear g0 g3
        refine Mix.wp_region_mix [([0, 1, 2, 4, 5, 6], 3), ([], 7)] [8, 9] (fun w' => ∃ x : Mix.InS (fun x => Own4 b8 a x), w' = x.w) (by kernel_rfl) (by kernel_rfl) (Mix.inS_mk HOD.out) ?_
        generalize W1.drew = W6 at HOD HHD ⊢
        have KA := Lib.hid (mgo2 HHD.out.2.2.2.2.1 a.t hta (by omega) m bb HNX.out)
        have hb8w := HOD.out.lt
        refine Mix.stages_cons ?_
        simp only [Mix.pickL, List.getElem?_cons_zero, List.getElem?_cons_succ]
        repeat (first
          | go_big_quiet_skip
          | (go_big_quiet_want; (go_big_quiet_op; go_big_quiet_on)))
        refine wpQuiet_nil ?_
        go_wp2_with (go_at_call 31; refine KA.out.mono ?_; rintro e W7 ⟨rfl, hu7, hot7⟩)
        have HO7 := Lib.hid (HOD.out.updP hu7 hT8)
        have HH7 := Lib.hid (HHD.out.turn hu7 hot7 (fun k hk => hk))
        have KR := Lib.hid (rdgo2 HH7.out.2.2.2.2.2 a.t (by omega) m bb HNX.out)
        clear hu7 hot7 KA
        refine Mix.onward_in HO7.out ?_
        refine Mix.stages_cons ?_
        simp only [Mix.pickL, List.getElem?_cons_zero, List.getElem?_cons_succ]
        refine wpQuiet_nil ?_
        go_wp2_with (go_at_call 59; refine KR.out.mono ?_; rintro e W8 ⟨rfl, hu8, hrt8⟩)
        have HO8 := Lib.hid (HO7.out.updP hu8 hG8)
        have HB8 := Lib.hid (HH7.out.fin hu8 hrt8 (fun k hk => hk))
        have qs : (goB a.t m bb == goB a.t m bb) = true := by simp
        clear hu8 hrt8 KR
        refine Mix.onward_in HO8.out ?_
        refine Mix.stages_nil ?_
        simp only [Mix.pickL, List.getElem?_cons_zero, List.getElem?_cons_succ]
        repeat (first
          | go_big_quiet_skip
          | (go_big_quiet_want; (go_big_quiet_op; go_big_quiet_on)))
        refine wpQuiet_nil ?_
        clear hne d1 d2 d3 qs
        go_wp2_with fail
        go_ret
        exact ⟨rfl, _, M, Nat.le_succ _, HB8.out⟩
end Go.Proofs.Ytkbjlpdmmbldpaa
