/- Merged of DuFirst DuFirst2 DuRef DuRef2 DuRef3 DuRef4 DuRef5 DuLaw DuM. -/
import Derived.Test.YtkbjlpdmmbldpaaDuA

/-! Due: First, where nothing is due; what First leaves. -/
set_option linter.unusedVariables false
set_option linter.unusedSimpArgs false
set_option maxRecDepth 100000
namespace Go.Proofs.Ytkbjlpdmmbldpaa
open Go.RowKit

/-- What a First tells, and what it leaves. -/
def DFirstP (T : Nat → Prop) (w : World) (d now : Nat) (L : List Tm) (to2 m : Nat) (b : Bool) (e : Ending) (w' : World) : Prop :=
  (¬ (b = true ∧ m ≤ to2) ∧ e = .returned (.tuple #[timR.val zeroTm, .bool false]) ∧ Below w.heap.size w w') ∨
  ((b = true ∧ m ≤ to2) ∧ ∃ (out : List Tm) (x : Tm), TurnOk L m out ∧ out[0]? = some x ∧ e = .returned (.tuple #[timR.val (saidT x), .bool true]) ∧ UpdP T w w' ∧ DT (Gr T w w') w' d (max now m) (restT L m ++ out.drop 1))
set_option maxHeartbeats 2000000 in
theorem dfirst_no {T : Nat → Prop} {w : World} {d now : Nat} {L : List Tm} (h : DT T w d now L) (to2 : Nat) (hL : L.length ≤ 40000) (m : Nat) (b : Bool) (hn : NextIs L m b) (hno : ¬ (b = true ∧ m ≤ to2)) :
    Calls Try.prog 29 #[.pointer (some ⟨d, 0, none⟩), .int .u64 (to2 : Int)] w (DFirstP T w d now L to2 m b) := by
  have hb1 : Below w.heap.size w (w.alloc (.cells #[.int .i64 0, .int .i64 0, .int .u64 0] 54)) := (Below.refl _ _).alloc (Nat.le_refl _) _
  have hn1 := heap_alloc_new w (.cells #[.int .i64 0, .int .i64 0, .int .u64 0] 54)
  obtain ⟨W1, hW1⟩ : ∃ W1, W1 = w.alloc (.cells #[.int .i64 0, .int .i64 0, .int .u64 0] 54) := ⟨_, rfl⟩
  rw [← hW1] at hb1 hn1
  have KN := Lib.hid (dnext_any (h.below hb1) (by omega) m b hn.q)
  have HN1 := Lib.hid hn1
  have HB1 := Lib.hid hb1
  have HNO := Lib.hid hno
  clear hn1 hb1 h hn
  cases b with
  | false =>
    clear hno
    go_enter Try.func29, Try.ntmps29
    go_upto_region 1 with fail
    show Code.wp _ _ _ _ (w.alloc (.cells #[.int .i64 0, .int .i64 0, .int .u64 0] 54))
    rw [← hW1]
    clear hW1
    go_wp2_with (first
      | (go_at_call 30; refine KN.out.mono ?_; rintro e W2 ⟨rfl, hb2⟩; have HN2 := Lib.hid ((hb2.block _ (Array.getElem?_eq_some_iff.1 HN1.out).1).trans HN1.out); have HB2 := Lib.hid (bthen' HB1.out hb2); clear hb2)
      | (refine wl_built rfl 54 _ rfl [] (by simp [Act.eval, Act.put]) _ built0 ?_)
      | (refine wpList_store_row rfl 54 _ _ rfl w.heap.size #[.int .i64 0, .int .i64 0, .int .u64 0] rfl rfl 54 #[.int .i64 0, .int .i64 0, .int .u64 0] HN2.out (timRow3 _ rfl) rfl (timOne3 _ _ _) ?_))
    exact bodyPost_ret (results_row_tmp rfl _ _ w.heap.size [.int .i64 0, .int .i64 0, .int .u64 0] _ rfl (row_reads (R := timR) zeroTm (setRow_heap _ HN2.out)) Try.underlying54 rfl (timRow3 _ rfl)) rfl (.inl ⟨HNO.out, rfl, below_row HB2.out (Nat.le_refl _) _⟩)
  | true =>
    have hlt : to2 < m := by
      rcases Nat.lt_or_ge to2 m with h9 | h9
      · exact h9
      · exact absurd ⟨rfl, h9⟩ hno
    clear hno
    have q1 : decide ((m : Int) > (to2 : Int)) = true := by simp; omega
    have q2 : decide ((to2 : Int) < (m : Int)) = true := by simp; omega
    have q3 : decide (to2 < m) = true := by simp; omega
    clear hlt
    go_enter Try.func29, Try.ntmps29
    go_upto_region 1 with fail
    show Code.wp _ _ _ _ (w.alloc (.cells #[.int .i64 0, .int .i64 0, .int .u64 0] 54))
    rw [← hW1]
    clear hW1
    go_wp2_with (first
      | (go_at_call 30; refine KN.out.mono ?_; rintro e W2 ⟨rfl, hb2⟩; have HN2 := Lib.hid ((hb2.block _ (Array.getElem?_eq_some_iff.1 HN1.out).1).trans HN1.out); have HB2 := Lib.hid (bthen' HB1.out hb2); clear hb2)
      | (refine wl_built rfl 54 _ rfl [] (by simp [Act.eval, Act.put]) _ built0 ?_)
      | (refine wpList_store_row rfl 54 _ _ rfl w.heap.size #[.int .i64 0, .int .i64 0, .int .u64 0] rfl rfl 54 #[.int .i64 0, .int .i64 0, .int .u64 0] HN2.out (timRow3 _ rfl) rfl (timOne3 _ _ _) ?_))
    exact bodyPost_ret (results_row_tmp rfl _ _ w.heap.size [.int .i64 0, .int .i64 0, .int .u64 0] _ rfl (row_reads (R := timR) zeroTm (setRow_heap _ HN2.out)) Try.underlying54 rfl (timRow3 _ rfl)) rfl (.inl ⟨fun h9 => HNO.out ⟨trivial, h9.2⟩, rfl, below_row HB2.out (Nat.le_refl _) _⟩)
end Go.Proofs.Ytkbjlpdmmbldpaa

/-! Due: First, where something is due. -/
set_option linter.unusedVariables false
set_option linter.unusedSimpArgs false
set_option maxRecDepth 100000
namespace Go.Proofs.Ytkbjlpdmmbldpaa
open Go.RowKit

/-- The place of a due's wheel, and a timer's own cells. -/
def Own2 (d p g : Nat) (y : Tm) (x : World) : Prop := x.cell? ⟨d, 0, none⟩ = some (.pointer (some ⟨p, 0, none⟩)) ∧ x.cell? ⟨g, 1, none⟩ = some (.int .i64 y.id) ∧ x.cell? ⟨g, 2, none⟩ = some (.int .u64 (y.t : Int))
theorem Own2.updP {P : Nat → Prop} {d p g : Nat} {y : Tm} {x x' : World} (h : Own2 d p g y x) (hu : UpdP P x x') (hd : ¬ P d) (hP : ¬ P g) : Own2 d p g y x' := by
  have h1 := hu.block d (World.block_lt_of_cell? x _ h.1) hd
  have hb := hu.block g (World.block_lt_of_cell? x _ h.2.1) hP
  exact ⟨(World.cell?_of_block (w := x) (a := ⟨d, 0, none⟩) h1).trans h.1, (World.cell?_of_block (w := x) (a := ⟨g, 1, none⟩) hb).trans h.2.1, (World.cell?_of_block (w := x) (a := ⟨g, 2, none⟩) hb).trans h.2.2⟩
theorem Own2.below {d p g : Nat} {y : Tm} {x x' : World} (h : Own2 d p g y x) (hb : Below x.heap.size x x') : Own2 d p g y x' := h.updP (P := fun _ => False) (UpdP.ofB hb) (by simp) (by simp)
theorem TurnOk.len {L : List Tm} {m : Nat} {out : List Tm} (h : TurnOk L m out) : out.length ≤ L.length :=
  nodup_lenT (h.srt.imp (fun {x y} h9 e => by subst e; unfold ltT at h9; omega)) (fun x hx => ((h.mem x).1 hx).1)
theorem setRow_updP (w : World) (q : Nat) (cs : Array Value) : UpdP (fun k => k = q) w (w.setRow q cs) :=
  ⟨rfl, rfl, rfl, by simp [World.setRow], fun k _ hk => by
    unfold World.setRow
    simp only [Array.getElem?_modify]
    rw [if_neg (fun e => hk e.symm)]⟩
set_option maxHeartbeats 8000000 in
theorem dfirst_yes {T : Nat → Prop} {w : World} {d now : Nat} {L : List Tm} (h : DT T w d now L) (to2 : Nat) (hto : to2 < 18446744073709551616) (hL : L.length ≤ 20000) (m : Nat) (hn : NextIs L m true) (hm : m ≤ to2) :
    Calls Try.prog 29 #[.pointer (some ⟨d, 0, none⟩), .int .u64 (to2 : Int)] w (DFirstP T w d now L to2 m true) := by
  have hb1 : Below w.heap.size w (w.alloc (.cells #[.int .i64 0, .int .i64 0, .int .u64 0] 54)) := (Below.refl _ _).alloc (Nat.le_refl _) _
  have hn1 := heap_alloc_new w (.cells #[.int .i64 0, .int .i64 0, .int .u64 0] 54)
  obtain ⟨W1, hW1⟩ : ∃ W1, W1 = w.alloc (.cells #[.int .i64 0, .int .i64 0, .int .u64 0] 54) := ⟨_, rfl⟩
  rw [← hW1] at hb1 hn1
  have hd0 := h
  have KN := Lib.hid (dnext_any (h.below hb1) (by omega) m true hn.q)
  have HN1 := Lib.hid hn1
  have HB1 := Lib.hid hb1
  have HM := Lib.hid hm
  have HX := Lib.hid (hn.yes rfl)
  have H := Lib.hid h
  have q1 : decide ((m : Int) > (to2 : Int)) = false := by simp; omega
  have q2 : decide ((to2 : Int) < (m : Int)) = false := by simp; omega
  have q3 : decide (to2 < m) = false := by simp; omega
  have hT1 : ¬ T w.heap.size := fun h9 => by have := h.lt _ h9; omega
  have hm64 : m < 18446744073709551616 := by omega
  obtain ⟨q, hq⟩ : ∃ q, q = w.heap.size := ⟨_, rfl⟩
  have HQ := Lib.hid hq
  rw [← hq] at hT1
  have HN1 := Lib.hid (show W1.heap[q]? = some (.cells #[.int .i64 0, .int .i64 0, .int .u64 0] 54 (0, 0)) from by rw [hq]; exact hn1)
  clear hn1 hb1 h hn hd0 hm
  go_enter Try.func29, Try.ntmps29
  go_upto_region 1 with fail
  show Code.wp _ _ _ _ (w.alloc (.cells #[.int .i64 0, .int .i64 0, .int .u64 0] 54))
  rw [← hW1, ← hq]
  clear hW1 hq
  go_upto_region 4 with (go_at_call 30; refine KN.out.mono ?_; rintro e W2 ⟨rfl, hb2⟩; have HN2 := Lib.hid ((hb2.block _ (Array.getElem?_eq_some_iff.1 HN1.out).1).trans HN1.out); have HB2 := Lib.hid (bthen' HB1.out hb2); clear hb2)
  clear KN HN1 HB1
  have H2 := Lib.hid (H.out.below HB2.out)
  obtain ⟨p, T', h1, h2, h3, h4, h5⟩ := H2.out.mem
  have c0 := h1.get (i := 0) rfl
  have KT := Lib.hid (turn_any h5 H.out.k0 m hm64 (by omega))
  have HC := Lib.hid h1
  have H3 := Lib.hid h3
  have H4 := Lib.hid h4
  have HTS := Lib.hid h5.ts
  have HND := Lib.hid h5.nod
  clear h1 h2 h3 h4 h5
  go_upto_region 5 with (go_at_call 12; refine KT.out.mono ?_; rintro e W3 ⟨ov, out, rfl, hu, ⟨T2, hw2, hT2, hov⟩, ho, hok⟩)
  clear KT c0
  have HG := Lib.hid (H2.out.turn HC.out H3.out H4.out hu hw2 hT2 (fun x hx => (List.mem_filter.1 hx).1))
  have HOK := Lib.hid hok
  have hpos : out ≠ [] := fun h9 => by
    obtain ⟨⟨x, hx, hxm⟩, -⟩ := HX.out
    have := (hok.mem x).2 ⟨hx, by omega⟩
    rw [h9] at this; cases this
  have hlen := hok.len
  obtain ⟨n, hn⟩ : ∃ n, out.length = n + 1 := ⟨out.length - 1, by have := List.length_pos_iff.2 hpos; omega⟩
  obtain ⟨g, cap, rfl, hg1, hg2⟩ : ∃ g cap, ov = .slice (some ⟨g, 0, none⟩) (n + 1) cap ∧ W2.heap.size ≤ g ∧ n + 1 ≤ cap := by
    rcases ho.2 with ⟨-, h0⟩ | ⟨g, cap, cur, rfl, hb, hg, hn2, -⟩
    · omega
    · rw [hn] at hn2
      exact ⟨g, cap, by rw [hn], hb, hn2⟩
  have hT2d : ¬ T2 d := fun h9 => by
    rcases hT2 d h9 with h9 | h9
    · exact H3.out h9
    · have := H2.out.lt d (H2.out.mem.elim fun _ h9 => h9.elim fun _ h9 => h9.2.1); omega
  have htd := H2.out.mem.elim fun _ h9 => h9.elim fun _ h9 => h9.2.1
  have hd2 := H2.out.lt d htd
  have HDL := Lib.hid (show DL T W2 W3 d (max now m) (restT L m) (.slice (some ⟨g, 0, none⟩) (n + 1) cap) out from
    ⟨HG.out.1, H2.out.lt, ⟨fun k => k = d ∨ T2 k, ⟨⟨p, T2, cel_updP HC.out hu H3.out hd2, .inl rfl, hT2d, fun k hk => .inr hk, hw2⟩, fun k hk => by
      rcases hk with rfl | hk
      · have := hu.size; omega
      · exact hw2.lt k hk, fun x hx => H.out.k0 x (List.mem_filter.1 hx).1, fun x hx => H.out.key x (List.mem_filter.1 hx).1⟩, fun k hk => by
      rcases hk with rfl | hk
      · exact .inl htd
      · rcases hT2 k hk with h9 | h9
        · exact .inl (H4.out k h9)
        · exact .inr h9, fun k hk h9 => by
      rcases h9 with rfl | h9
      · simp [Value.ownBlock] at hk; omega
      · exact hov k hk h9⟩, ho⟩)
  clear hu hw2 hT2 hov ho hok hpos HC H3 H4 hT2d htd hd2
  go_upto_block 0 with fail
  have HRD := Lib.hid (fun (W : World) (hr : Reads timR W (.slice (some ⟨g, 0, none⟩) (n + 1) cap) out) => reads_tailT hr hn hg2)
  generalize (if cap = 1 then some (⟨g, 0, none⟩ : Addr) else some ⟨g, 3, none⟩) = ad at HRD ⊢
  clear HG
  have HHN := Lib.hid hn
  have HTO := Lib.hid (fun (x : Tm) (hx : x ∈ out) => (show x.t < 18446744073709551616 ∧ x.k = 0 ∧ ∃ k i, mayB k i = true ∧ x.id = keyI k i from ⟨HTS.out x ((HOK.out.mem x).1 hx).1, H.out.k0 x ((HOK.out.mem x).1 hx).1, H.out.key x ((HOK.out.mem x).1 hx).1⟩))
  have hLout : (restT L m ++ out.drop 1).length ≤ L.length + L.length := by
    have := rest_len L m
    simp only [List.length_append, List.length_drop]
    omega
  go_wp2_with fail
  go_loopw [33] (fun i wr => ∃ k : Nat, k ≤ n ∧ i = .int .i64 k ∧ Hid (DL T W2 wr d (max now m) (restT L m ++ (out.drop 1).take k) (.slice (some ⟨g, 0, none⟩) (n + 1) cap) out)) (fun i _ => n - (intOf i).toNat)
  case atStart => exact ⟨0, by omega, rfl, Lib.hid (by simpa using HDL.out)⟩
  case round =>
    clear HDL
    obtain ⟨k, hk, rfl, HD⟩ := hrel
    by_cases hlt : k < n
    · have hdl : (out.drop 1).length = n := by rw [List.length_drop, HHN.out]; omega
      obtain ⟨y, hy⟩ : ∃ y, (out.drop 1)[k]? = some y := ⟨_, List.getElem?_eq_getElem (by omega)⟩
      obtain ⟨b, off, had, hr2⟩ := (HRD.out wr (HD.out.own.lts timOk)).at hy
      have HR2 := Lib.hid hr2
      have HNEW := Lib.hid (tail_new HND.out HOK.out hy)
      have HSN := Lib.hid (take_snoc hy)
      have hyo := HTO.out y (List.mem_of_mem_drop (List.mem_of_getElem? hy))
      obtain ⟨T5, hT5, hg5, hov5⟩ := HD.out.dt
      have HD5 := Lib.hid hT5
      have HG5 := Lib.hid hg5
      have HOV5 := Lib.hid hov5
      obtain ⟨p5, T6, j1, j2, j3, j4, j5⟩ := hT5.mem
      have JC := Lib.hid j1
      have J3 := Lib.hid j3
      have J4 := Lib.hid j4
      have hln : (restT L m ++ (out.drop 1).take k).length ≤ 100000 := by
        have a1 := rest_len L m
        simp only [List.length_append, List.length_take]
        omega
      have KP := Lib.hid (fun W (hb : Below wr.heap.size wr W) => put_any (j5.below hb) y.id y.t hyo.1 hln)
      have had2 : ad = some ⟨b, off, none⟩ := by simpa using had
      subst had2
      clear hy hr2 hT5 hg5 hov5 j1 j2 j3 j4 j5 had hdl hln
      go_upto_region 8 with (first
        | (refine wpList_load_mid rfl 54 _ rfl b (off + k * timR.n) rfl (timR.cells y) _ HR2.out Try.underlying54 rfl (timOk.row y) ?_)
        | (refine wpList_store_row rfl 54 _ _ rfl wr.heap.size #[.int .i64 y.k, .int .i64 y.id, .int .u64 (y.t : Int)] rfl rfl 54 #[.int .i64 0, .int .i64 0, .int .u64 0] (heap_alloc_new _ _) (timRow3 _ rfl) rfl (timOne3 _ _ _) ?_))
      show Code.wp _ _ _ _ ((wr.alloc (.cells #[.int .i64 0, .int .i64 0, .int .u64 0] 54)).setRow wr.heap.size #[.int .i64 y.k, .int .i64 y.id, .int .u64 (y.t : Int)])
      have hb3 : Below wr.heap.size wr ((wr.alloc (.cells #[.int .i64 0, .int .i64 0, .int .u64 0] 54)).setRow wr.heap.size #[.int .i64 y.k, .int .i64 y.id, .int .u64 (y.t : Int)]) := below_row ((Below.refl _ _).alloc (Nat.le_refl _) _) (Nat.le_refl _) _
      have hx3 := setRow_heap #[.int .i64 y.k, .int .i64 y.id, .int .u64 (y.t : Int)] (heap_alloc_new wr (.cells #[.int .i64 0, .int .i64 0, .int .u64 0] 54))
      generalize (wr.alloc (.cells #[.int .i64 0, .int .i64 0, .int .u64 0] 54)).setRow wr.heap.size #[.int .i64 y.k, .int .i64 y.id, .int .u64 (y.t : Int)] = W5 at hb3 hx3 ⊢
      have hg8 : ¬ T6 wr.heap.size := fun h9 => by have := HD5.out.lt _ (J4.out _ h9); omega
      have hd8 : d < wr.heap.size := HD5.out.lt d (HD5.out.mem.elim fun _ h9 => h9.elim fun _ h9 => h9.2.1)
      obtain ⟨b8, hb8⟩ : ∃ b8, b8 = wr.heap.size := ⟨_, rfl⟩
      rw [← hb8] at hx3 hg8 ⊢
      have HO := Lib.hid (show Own2 d p5 b8 y W5 from ⟨(JC.out.below hb3).get (i := 0) rfl, cell_of_row W5 _ _ _ _ _ hx3, cell_of_row W5 _ _ _ _ _ hx3⟩)
      have hdr : Below wr.heap.size wr W5.drew := bthen' hb3 (Below.refl _ _).drew
      have HOD := Lib.hid (HO.out.below ((Below.refl _ _).drew))
      have HDR := Lib.hid hdr
      have KP2 := Lib.hid (KP.out _ hdr)
      clear hb3 hx3 hb8 hdr KP
      have hne : Nonempty (Mix.InS (fun x => Own2 d p5 b8 y x)) := ⟨⟨W5, HO.out⟩⟩
      have d0 := fun (z : Mix.InS (fun x => Own2 d p5 b8 y x)) => z.h.1
      have d1 := fun (z : Mix.InS (fun x => Own2 d p5 b8 y x)) => z.h.2.1
      have d2 := fun (z : Mix.InS (fun x => Own2 d p5 b8 y x)) => z.h.2.2
      (try simp only [Act.put])
      refine Mix.wp_region_mix [([0, 1, 2, 3, 4, 5, 6, 7], 8)] [] (fun w' => ∃ x : Mix.InS (fun x => Own2 d p5 b8 y x), w' = x.w) (by kernel_rfl) (by kernel_rfl) (Mix.inS_mk HOD.out) ?_
      generalize W5.drew = W6 at HOD HDR KP2 ⊢
      refine Mix.stages_cons ?_
      simp only [Mix.pickL, List.getElem?_cons_zero, List.getElem?_cons_succ]
      repeat (first
        | go_big_quiet_skip
        | (go_big_quiet_want; (go_big_quiet_op; go_big_quiet_on)))
      refine wpQuiet_nil ?_
      go_wp2_with (go_at_call 17; refine KP2.out.mono ?_; rintro e W7 ⟨rfl, hu7, hw7⟩)
      have HO7 := Lib.hid (HOD.out.updP hu7 J3.out hg8)
      refine Mix.onward_in HO7.out ?_
      refine Mix.stages_nil ?_
      simp only [Mix.pickL]
      refine wpQuiet_nil ?_
      clear d0 d1 d2 hne
      obtain ⟨-, ⟨kk, ii, hmy, hidy⟩⟩ := hyo.2
      have hpos := key_pos hmy
      rw [← hidy] at hpos
      rw [(putT_new HNEW.out hpos).2] at hw7
      obtain ⟨g1, g2⟩ := DT.put (T2 := T5) (p := 0) (k := kk) (i := ii) (t := y.t) (HD5.out.below HDR.out) hmy (JC.out.below HDR.out) J3.out J4.out hu7 (by rw [← hidy]; exact hw7)
      rw [← hidy] at g2
      have hs6 := HDR.out.size
      have HDN := Lib.hid (DL.more (HD.out.below HDR.out) (fun k9 hk9 => by
        rcases HG5.out k9 hk9 with h9 | h9
        · exact .inl h9
        · exact .inr ⟨h9.1, by omega⟩) HOV5.out g1 g2)
      have HEQ := Lib.hid (show (restT L m ++ (out.drop 1).take k) ++ [(⟨0, y.id, y.t⟩ : Tm)] = restT L m ++ (out.drop 1).take (k + 1) from by
        rw [← HSN.out, List.append_assoc]
        congr 2
        have := hyo.2.1
        cases y
        simp at this
        subst this
        rfl)
      clear g1 g2 hu7 hw7 hidy hpos hmy hyo hs6
      go_wp2_with fail
      go_roundw
      case rel => exact ⟨k + 1, by omega, by go_num, Lib.hid (by rw [← HEQ.out]; exact HDN.out)⟩
      case measure => simp [intOf]; omega
    · obtain rfl : k = n := by omega
      have hfin := HD.out.fin
      rw [List.take_of_length_le (by rw [List.length_drop, HHN.out]; omega)] at hfin
      have HF := Lib.hid hfin
      obtain ⟨x0, hx0⟩ : ∃ x, out[0]? = some x := ⟨_, List.getElem?_eq_getElem (by rw [HHN.out]; omega)⟩
      obtain ⟨b, off, hv0, hr2⟩ := (HD.out.own.lts timOk).at hx0
      have hv1 : g = b ∧ 0 = off := by simpa using hv0
      obtain ⟨rfl, rfl⟩ := hv1
      have HR2 := Lib.hid hr2
      have HX0 := Lib.hid hx0
      have HN3 := Lib.hid ((HD.out.upd.block q (Array.getElem?_eq_some_iff.1 HN2.out).1 hT1).trans HN2.out)
      clear hfin hx0 hv0 hr2
      go_wp2_with (first
        | (refine wpList_load_mid rfl 54 _ rfl g (0 + 0 * timR.n) rfl (timR.cells x0) _ HR2.out Try.underlying54 rfl (timOk.row x0) ?_)
        | (go_at_call 55; refine (timer_any _ x0).mono ?_; rintro e W9 ⟨rfl, hb9⟩; have HN4 := Lib.hid ((hb9.block q (Array.getElem?_eq_some_iff.1 HN3.out).1).trans HN3.out); have HB9 := Lib.hid hb9; clear hb9)
        | (refine wpList_store_row rfl 54 _ _ rfl q #[.int .i64 (saidT x0).k, .int .i64 (saidT x0).id, .int .u64 ((saidT x0).t : Int)] rfl rfl 54 #[.int .i64 0, .int .i64 0, .int .u64 0] HN4.out (timRow3 _ rfl) rfl (timOne3 _ _ _) ?_))
      refine bodyPost_ret (results_row_tmp rfl _ _ q [.int .i64 (saidT x0).k, .int .i64 (saidT x0).id, .int .u64 ((saidT x0).t : Int)] _ rfl (row_reads (R := timR) (saidT x0) (setRow_heap _ HN4.out)) Try.underlying54 rfl (timRow3 _ rfl)) rfl ?_
      have hq := HQ.out
      have hu9 : UpdP T w W9 := wt_gr (wt_gr (UpdP.ofB HB2.out) HF.out.1) (UpdP.ofB HB9.out)
      have hs1 := HB2.out.size
      have hs2 := HF.out.1.size
      have hs3 := HB9.out.size
      have hrow := setRow_updP W9 q #[.int .i64 (saidT x0).k, .int .i64 (saidT x0).id, .int .u64 ((saidT x0).t : Int)]
      have hs4 := hrow.size
      have hq2 : q < W2.heap.size := (Array.getElem?_eq_some_iff.1 HN2.out).1
      refine .inr ⟨⟨rfl, HM.out⟩, out, x0, HOK.out, HX0.out, rfl, ⟨hrow.os.trans hu9.os, hrow.tape.trans hu9.tape, hrow.output.trans hu9.output, by omega, fun k hk hn => (hrow.block k (by omega) (by omega)).trans (hu9.block k hk hn)⟩, ?_⟩
      refine ((HF.out.2.below HB9.out).updP hrow (fun k hk h9 => ?_)).wider (fun k hk => ?_) (fun k hk => ?_)
      · subst hk
        rcases h9 with h9 | h9
        · exact hT1 h9
        · omega
      · rcases hk with h9 | h9
        · exact .inl h9
        · exact .inr ⟨by omega, by omega⟩
      · rcases hk with h9 | h9
        · have := H.out.lt k h9; omega
        · exact h9.2
theorem dfirst_any {T : Nat → Prop} {w : World} {d now : Nat} {L : List Tm} (h : DT T w d now L) (to2 : Nat) (hto : to2 < 18446744073709551616) (hL : L.length ≤ 20000) (m : Nat) (b : Bool) (hn : NextIs L m b) :
    Calls Try.prog 29 #[.pointer (some ⟨d, 0, none⟩), .int .u64 (to2 : Int)] w (DFirstP T w d now L to2 m b) := by
  by_cases h9 : b = true ∧ m ≤ to2
  · obtain ⟨rfl, hm⟩ := h9
    exact dfirst_yes h to2 hto hL m hn hm
  · exact dfirst_no h to2 (by omega) m b hn h9
end Go.Proofs.Ytkbjlpdmmbldpaa

/-! The document's due: May, before, Find. (May turned from XDuKey.) -/
set_option linter.unusedVariables false
set_option linter.unusedSimpArgs false
set_option maxRecDepth 100000
namespace Go.Proofs.Ytkbjlpdmmbldpaa
open Go.RowKit

theorem rmay_any (w : World) (k i : Int) : Calls Try.prog 67 #[.int .i64 k, .int .i64 i] w fun e w' => e = .returned (.bool (mayB k i)) ∧ w = w' := by
  by_cases h1 : 1 ≤ k
  · have q1 : decide (1 ≤ k) = true := by simp [h1]
    by_cases h2 : k ≤ 4
    · have q2 : decide (k ≤ 4) = true := by simp [h2]
      by_cases h3 : 0 ≤ i
      · have q3 : decide (0 ≤ i) = true := by simp [h3]
        have e0 := Lib.hid (show mayB k i = decide (i ≤ 1099511627776) from by unfold mayB; simp [h1, h2, h3])
        clear h1 h2 h3
        go_enter Try.func67, Try.ntmps67
        go_wp2_with fail
        go_ret
        exact ⟨by rw [e0.out]; rfl, by first | rfl | trivial⟩
      · have q3 : decide (0 ≤ i) = false := by simp; omega
        have e0 := Lib.hid (show mayB k i = false from by unfold mayB; simp; omega)
        clear h1 h2 h3
        go_enter Try.func67, Try.ntmps67
        go_wp2_with fail
        go_ret
        exact ⟨by rw [e0.out]; rfl, by first | rfl | trivial⟩
    · have q2 : decide (k ≤ 4) = false := by simp; omega
      have e0 := Lib.hid (show mayB k i = false from by unfold mayB; simp; omega)
      clear h1 h2
      go_enter Try.func67, Try.ntmps67
      go_wp2_with fail
      go_ret
      exact ⟨by rw [e0.out]; rfl, by first | rfl | trivial⟩
  · have q1 : decide (1 ≤ k) = false := by simp; omega
    have e0 := Lib.hid (show mayB k i = false from by unfold mayB; simp; omega)
    clear h1
    go_enter Try.func67, Try.ntmps67
    go_wp2_with fail
    go_ret
    exact ⟨by rw [e0.out]; rfl, by first | rfl | trivial⟩
/-- Which of two timers comes first. -/
def befT (x y : Tm) : Bool := decide (x.t < y.t ∨ (x.t = y.t ∧ (x.k < y.k ∨ (x.k = y.k ∧ x.id < y.id))))
theorem before_any (w : World) (x y : Tm) : Calls Try.prog 69 #[timR.val x, timR.val y] w fun e w' => e = .returned (.bool (befT x y)) ∧ Below w.heap.size w w' := by
  have hb1 : Below w.heap.size w (w.alloc (.cells (timR.cells x).toArray 54)) := (Below.refl _ _).alloc (Nat.le_refl _) _
  have hb2 : Below w.heap.size w ((w.alloc (.cells (timR.cells x).toArray 54)).alloc (.cells (timR.cells y).toArray 54)) := hb1.alloc hb1.size _
  have hn1 := heap_alloc_new w (.cells (timR.cells x).toArray 54)
  have hn2 := heap_alloc_new (w.alloc (.cells (timR.cells x).toArray 54)) (.cells (timR.cells y).toArray 54)
  have hs : (w.alloc (.cells (timR.cells x).toArray 54)).heap.size = w.heap.size + 1 := by simp
  have hb12 : Below (w.alloc (.cells (timR.cells x).toArray 54)).heap.size (w.alloc (.cells (timR.cells x).toArray 54)) ((w.alloc (.cells (timR.cells x).toArray 54)).alloc (.cells (timR.cells y).toArray 54)) := (Below.refl _ _).alloc (Nat.le_refl _) _
  have r1 := below_range hb12 (row_reads (R := timR) x hn1)
  have r2 := row_reads (R := timR) y hn2
  rw [hs] at r2
  obtain ⟨W1, hW1⟩ : ∃ W1, W1 = (w.alloc (.cells (timR.cells x).toArray 54)).alloc (.cells (timR.cells y).toArray 54) := ⟨_, rfl⟩
  rw [← hW1] at hb2 r1 r2
  have a0 : W1.cell? ⟨w.heap.size, 0, none⟩ = some (.int .i64 x.k) := r1 0 _ rfl
  have a1 : W1.cell? ⟨w.heap.size, 1, none⟩ = some (.int .i64 x.id) := r1 1 _ rfl
  have a2 : W1.cell? ⟨w.heap.size, 2, none⟩ = some (.int .u64 (x.t : Int)) := r1 2 _ rfl
  have b0 : W1.cell? ⟨w.heap.size + 1, 0, none⟩ = some (.int .i64 y.k) := r2 0 _ rfl
  have b1 : W1.cell? ⟨w.heap.size + 1, 1, none⟩ = some (.int .i64 y.id) := r2 1 _ rfl
  have b2 : W1.cell? ⟨w.heap.size + 1, 2, none⟩ = some (.int .u64 (y.t : Int)) := r2 2 _ rfl
  have HB := Lib.hid hb2
  clear hb1 hb2 hn1 hn2 hs hb12 r1 r2
  by_cases ht : x.t = y.t
  · have q1 : ((x.t : Int) != (y.t : Int)) = false := by simp [ht]
    by_cases hk : x.k = y.k
    · have q2 : (x.k != y.k) = false := by simp [hk]
      have e0 := Lib.hid (show befT x y = decide (x.id < y.id) from by unfold befT; simp [ht, hk])
      clear ht hk
      go_enter Try.func69, Try.ntmps69
      go_upto_region 1 with fail
      show Code.wp _ _ _ _ ((w.alloc (.cells (timR.cells x).toArray 54)).alloc (.cells (timR.cells y).toArray 54))
      rw [← hW1]
      clear hW1
      go_wp2_with fail
      go_ret
      exact ⟨by rw [e0.out]; rfl, HB.out⟩
    · have q2 : (x.k != y.k) = true := by simp [hk]
      have e0 := Lib.hid (show befT x y = decide (x.k < y.k) from by unfold befT; simp [ht, hk])
      clear ht hk
      go_enter Try.func69, Try.ntmps69
      go_upto_region 1 with fail
      show Code.wp _ _ _ _ ((w.alloc (.cells (timR.cells x).toArray 54)).alloc (.cells (timR.cells y).toArray 54))
      rw [← hW1]
      clear hW1
      go_wp2_with fail
      go_ret
      exact ⟨by rw [e0.out]; rfl, HB.out⟩
  · have q1 : ((x.t : Int) != (y.t : Int)) = true := by simp; omega
    have e0 := Lib.hid (show befT x y = decide ((x.t : Int) < (y.t : Int)) from by unfold befT; simp [ht])
    clear ht
    go_enter Try.func69, Try.ntmps69
    go_upto_region 1 with fail
    show Code.wp _ _ _ _ ((w.alloc (.cells (timR.cells x).toArray 54)).alloc (.cells (timR.cells y).toArray 54))
    rw [← hW1]
    clear hW1
    go_wp2_with fail
    go_ret
    exact ⟨by rw [e0.out]; first | rfl | (congr 2; simp), HB.out⟩
/-- The place of a timer in a list; -1: there is none. -/
def isT (k i : Int) (x : Tm) : Bool := decide (x.k = k ∧ x.id = i)
def plcT (M : List Tm) (k i : Int) : Int := match M.findIdx? (isT k i) with | some n => (n : Int) | none => -1
theorem plc_at {M : List Tm} {k i : Int} {q : Nat} {x : Tm} (h : ∀ y ∈ M.take q, isT k i y = false) (hx : M[q]? = some x) (hi : isT k i x = true) : plcT M k i = (q : Int) := by
  obtain ⟨hq, he⟩ := List.getElem?_eq_some_iff.1 hx
  have : M.findIdx? (isT k i) = some q := by
    rw [List.findIdx?_eq_some_iff_getElem]
    refine ⟨hq, by rw [he]; exact hi, fun j hj => ?_⟩
    have hm : M[j]'(by omega) ∈ M.take q := by rw [List.mem_take_iff_getElem]; exact ⟨j, by omega, rfl⟩
    simp [h _ hm]
  unfold plcT
  rw [this]
theorem plc_no {M : List Tm} {k i : Int} (h : ∀ y ∈ M, isT k i y = false) : plcT M k i = -1 := by
  have : M.findIdx? (isT k i) = none := by rw [List.findIdx?_eq_none_iff]; exact h
  unfold plcT
  rw [this]
theorem dRow : (Try.prog.info? 63).map (·.size) = some 2 := by kernel_rfl
theorem tim_k {w : World} {b o k : Nat} {x : Tm} (h : w.rangeAt b (o + k * timR.n) (timR.cells x)) : w.cell? ⟨b, o + k * 3, none⟩ = some (.int .i64 x.k) := by have := h 0 _ rfl; simpa [timR] using this
set_option maxHeartbeats 2000000 in
theorem rdfind_any (w : World) (now : Nat) (v : Value) (M : List Tm) (k i : Int) (hv : Reads timR w v M) (hM : M.length ≤ 100000) :
    Calls Try.prog 35 #[.agg #[.int .u64 (now : Int), v], .int .i64 k, .int .i64 i] w fun e w' => e = .returned (.int .i64 (plcT M k i)) ∧ Below w.heap.size w w' := by
  obtain ⟨av, cv, rfl⟩ := hv.form
  have hb : Below w.heap.size w (w.alloc (.cells [.int .u64 (now : Int), .slice av M.length cv].toArray 63)) := (Below.refl _ _).alloc (Nat.le_refl _) _
  have hC := Cel.new w 63 [.int .u64 (now : Int), .slice av M.length cv]
  obtain ⟨W1, hW1⟩ : ∃ W1, W1 = w.alloc (.cells [.int .u64 (now : Int), .slice av M.length cv].toArray 63) := ⟨_, rfl⟩
  rw [← hW1] at hb hC
  have HV := Lib.hid (hv.below hb)
  have HB := Lib.hid hb
  have c1 := hC.get (i := 1) rfl
  clear hv hC hb
  go_enter Try.func35, Try.ntmps35
  go_upto_region 1 with fail
  show Code.wp _ _ _ _ (w.alloc (.cells [.int .u64 (now : Int), .slice av M.length cv].toArray 63))
  rw [← hW1]
  clear hW1
  go_wp2_with fail
  go_loopw [7] (fun j wr => ∃ q : Nat, q ≤ M.length ∧ j = .int .i64 q ∧ wr = W1 ∧ Hid (∀ y ∈ M.take q, isT k i y = false)) (fun j _ => M.length - (intOf j).toNat)
  case atStart => exact ⟨0, by omega, rfl, rfl, Lib.hid (by simp)⟩
  case round =>
    obtain ⟨q, hq, rfl, rfl, hE⟩ := hrel
    by_cases hlt : q < M.length
    · obtain ⟨x, hx⟩ : ∃ x, M[q]? = some x := ⟨_, List.getElem?_eq_getElem hlt⟩
      obtain ⟨b1, o1, rfl, r1⟩ := HV.out.at hx
      have HX := Lib.hid hx
      have c0 := tim_k r1
      have c2 := tim_id r1
      clear hx r1
      by_cases hxk : x.k = k
      · have hkb : (x.k == k) = true := by simp [hxk]
        by_cases hxi : x.id = i
        · have hib : (x.id == i) = true := by simp [hxi]
          have HP := Lib.hid (plc_at hE.out HX.out (by unfold isT; simp [hxk, hxi]))
          clear hxi hxk hE
          go_wp2_with fail
          go_ret
          exact ⟨by rw [HP.out]; rfl, HB.out⟩
        · have hib : (x.id == i) = false := by simp [hxi]
          have HE2 : Hid (∀ y ∈ M.take (q + 1), isT k i y = false) := Lib.hid (by
            rw [← take_snoc HX.out]
            intro y hy
            rcases List.mem_append.1 hy with hy | hy
            · exact hE.out y hy
            · simp at hy; subst hy; unfold isT; simp [hxi])
          clear hxi hxk
          go_wp2_with fail
          go_roundw
          case rel => exact ⟨q + 1, by omega, by go_num, by first | rfl | trivial, HE2⟩
          case measure => simp [intOf]; omega
      · have hkb : (x.k == k) = false := by simp [hxk]
        have HE2 : Hid (∀ y ∈ M.take (q + 1), isT k i y = false) := Lib.hid (by
          rw [← take_snoc HX.out]
          intro y hy
          rcases List.mem_append.1 hy with hy | hy
          · exact hE.out y hy
          · simp at hy; subst hy; unfold isT; simp [hxk])
        clear hxk
        go_wp2_with fail
        go_roundw
        case rel => exact ⟨q + 1, by omega, by go_num, by first | rfl | trivial, HE2⟩
        case measure => simp [intOf]; omega
    · obtain rfl : q = M.length := by omega
      have HP := Lib.hid (plc_no (by have := hE.out; rwa [List.take_length] at this))
      clear hE
      go_wp2_with fail
      go_ret
      exact ⟨by rw [HP.out]; rfl, HB.out⟩
end Go.Proofs.Ytkbjlpdmmbldpaa

/-! The document's due: least, Next, without. -/
set_option linter.unusedVariables false
set_option linter.unusedSimpArgs false
set_option maxRecDepth 100000
namespace Go.Proofs.Ytkbjlpdmmbldpaa
open Go.RowKit

theorem bef_iff (x y : Tm) : befT x y = true ↔ (x.t < y.t ∨ (x.t = y.t ∧ (x.k < y.k ∨ (x.k = y.k ∧ x.id < y.id)))) := by unfold befT; rw [decide_eq_true_iff]
theorem bef_no (x y : Tm) : befT x y = false ↔ ¬ (x.t < y.t ∨ (x.t = y.t ∧ (x.k < y.k ∨ (x.k = y.k ∧ x.id < y.id)))) := by unfold befT; rw [decide_eq_false_iff_not]
structure LeastI (M : List Tm) (q k : Nat) (y : Tm) : Prop where
  at_ : M[k]? = some y
  lt : k < q
  min : ∀ z ∈ M.take q, befT z y = false
theorem LeastI.one {M : List Tm} {x : Tm} (h : M[0]? = some x) : LeastI M 1 0 x := by
  refine ⟨h, by omega, fun z hz => ?_⟩
  have e : M.take 1 = [x] := by rw [← take_snoc h]; rfl
  rw [e] at hz
  simp at hz
  subst hz
  rw [bef_no]
  omega
theorem LeastI.yes {M : List Tm} {q k : Nat} {x y : Tm} (h : LeastI M q k y) (hx : M[q]? = some x) (hb : befT x y = true) : LeastI M (q + 1) q x := by
  refine ⟨hx, by omega, fun z hz => ?_⟩
  rw [← take_snoc hx] at hz
  rw [bef_iff] at hb
  rw [bef_no]
  rcases List.mem_append.1 hz with hz | hz
  · have := (bef_no _ _).1 (h.min z hz)
    omega
  · simp at hz
    subst hz
    omega
theorem LeastI.no {M : List Tm} {q k : Nat} {x y : Tm} (h : LeastI M q k y) (hx : M[q]? = some x) (hb : befT x y = false) : LeastI M (q + 1) k y := by
  refine ⟨h.at_, by have := h.lt; omega, fun z hz => ?_⟩
  rw [← take_snoc hx] at hz
  rcases List.mem_append.1 hz with hz | hz
  · exact h.min z hz
  · simp at hz
    subst hz
    exact hb
/-- The first timer of a list, and its place. -/
def FstP (M : List Tm) (k : Int) : Prop := (M = [] ∧ k = -1) ∨ ∃ (n : Nat) (y : Tm), k = (n : Int) ∧ M[n]? = some y ∧ ∀ z ∈ M, befT z y = false
theorem LeastI.fin {M : List Tm} {k : Nat} {y : Tm} (h : LeastI M M.length k y) : FstP M (k : Int) := .inr ⟨k, y, rfl, h.at_, fun z hz => h.min z (by rw [List.take_length]; exact hz)⟩
def Lst (M : List Tm) (w : World) (e : Ending) (w' : World) : Prop := (∃ k : Int, e = .returned (.int .i64 k) ∧ FstP M k) ∧ Below w.heap.size w w'
def RLst (M : List Tm) (q : Nat) (kv : Value) : Prop := (q = 0 ∧ kv = .int .i64 (-1)) ∨ ∃ (k : Nat) (y : Tm), kv = .int .i64 (k : Int) ∧ LeastI M q k y
set_option maxHeartbeats 4000000 in
theorem rleast_any (w : World) (now : Nat) (v : Value) (M : List Tm) (hv : Reads timR w v M) (hM : M.length ≤ 100000) :
    Calls Try.prog 60 #[.agg #[.int .u64 (now : Int), v]] w (Lst M w) := by
  obtain ⟨av, cv, rfl⟩ := hv.form
  have hb : Below w.heap.size w (w.alloc (.cells [.int .u64 (now : Int), .slice av M.length cv].toArray 63)) := (Below.refl _ _).alloc (Nat.le_refl _) _
  have hC := Cel.new w 63 [.int .u64 (now : Int), .slice av M.length cv]
  obtain ⟨W1, hW1⟩ : ∃ W1, W1 = w.alloc (.cells [.int .u64 (now : Int), .slice av M.length cv].toArray 63) := ⟨_, rfl⟩
  rw [← hW1] at hb hC
  have HV := Lib.hid (hv.below hb)
  have HB := Lib.hid hb
  have HC := Lib.hid hC
  clear hv hC hb
  go_enter Try.func60, Try.ntmps60
  go_upto_region 1 with fail
  show Code.wp _ _ _ _ (w.alloc (.cells [.int .u64 (now : Int), .slice av M.length cv].toArray 63))
  rw [← hW1]
  clear hW1
  go_wp2_with fail
  go_loopw [3, 4] (fun k3 j wr => ∃ (q : Nat) (kv : Value), k3 = kv ∧ q ≤ M.length ∧ j = .int .i64 q ∧ Below W1.heap.size W1 wr ∧ RLst M q kv) (fun _ j _ => M.length - (intOf j).toNat)
  case atStart => exact ⟨0, _, rfl, by omega, rfl, Below.refl _ _, .inl ⟨rfl, rfl⟩⟩
  case round =>
    obtain ⟨q, kv, hkv, hq, rfl, hW, hR⟩ := hrel
    have hkv' := hkv.symm
    clear hkv
    subst hkv'
    have c1 := (HC.out.below hW).get (i := 1) rfl
    have HW := Lib.hid hW
    by_cases hlt : q < M.length
    · obtain ⟨x, hx⟩ : ∃ x, M[q]? = some x := ⟨_, List.getElem?_eq_getElem hlt⟩
      obtain ⟨b1, o1, rfl, r1⟩ := (HV.out.below hW).at hx
      have HX := Lib.hid hx
      have d1 := fun (z : Later wr) => z.cell c1
      rcases hR with ⟨rfl, rfl⟩ | ⟨k, y, rfl, hL⟩
      · have HL := Lib.hid (LeastI.one hx)
        clear hx r1 hW
        go_upto_region 5 with fail
        refine wp_region_later (by kernel_rfl) (by kernel_rfl) (Below.refl _ _) ?_
        repeat (first
          | go_big_quiet_skip
          | (go_big_quiet_want; (go_big_quiet_op; go_big_quiet_on)))
        refine wpQuiet_nil ?_
        rintro ⟨W3, hb3⟩
        dsimp only
        clear d1 c1
        have HW3 := Lib.hid (bthen' HW.out hb3)
        clear hb3
        go_wp2_with fail
        go_roundw
        case rel => exact ⟨1, _, rfl, by omega, rfl, HW3.out, .inr ⟨0, x, rfl, HL.out⟩⟩
        case measure => simp [intOf]; omega
      · have hkq := hL.lt
        have hkl : k < M.length := by omega
        obtain ⟨b2, o2, e2, r2⟩ := (HV.out.below hW).at hL.at_
        obtain ⟨rfl, rfl⟩ : b1 = b2 ∧ o1 = o2 := by simpa using e2
        have R1 := Lib.hid (fun (w' : World) (hx : ∃ z : Later wr, w' = z.w) => (show w'.rangeAt b1 (o1 + q * timR.n) (timR.cells x) from by obtain ⟨z, rfl⟩ := hx; exact below_range z.h r1))
        have R2 := Lib.hid (fun (w' : World) (hx : ∃ z : Later wr, w' = z.w) => (show w'.rangeAt b1 (o1 + k * timR.n) (timR.cells y) from by obtain ⟨z, rfl⟩ := hx; exact below_range z.h r2))
        have qk : decide ((k : Int) < 0) = false := by simp
        have hex : ∃ (n : Nat) (u : Tm), LeastI M (q + 1) n u ∧ n = (if befT x y = true then q else k) := by
          cases hbf : befT x y with
          | true => exact ⟨q, x, hL.yes hx hbf, by simp⟩
          | false => exact ⟨k, y, hL.no hx hbf, by simp⟩
        obtain ⟨n9, u9, h9, e9⟩ := hex
        have HL := Lib.hid h9
        cases hbf : befT x y with
        | true =>
          rw [hbf, if_pos rfl] at e9
          subst e9
          have KB := Lib.hid (fun W => before_any W x y)
          rw [hbf] at KB
          clear hx r1 r2 hW hL e2 h9 hbf
          go_upto_region 5 with fail
          refine wp_region_later (by kernel_rfl) (by kernel_rfl) (Below.refl _ _) ?_
          repeat (first
            | go_big_quiet_skip
            | (go_big_quiet_want; first
              | (refine quiet_load_mid 54 _ rfl b1 (o1 + n9 * timR.n) rfl (timR.cells x) _ R1.out Try.underlying54 rfl (timOk.row x) ?_; simp only [Act.put, List.setIfInBounds_toArray, List.set_cons_succ, List.set_cons_zero]; go_big_quiet_on)
              | (refine quiet_load_mid 54 _ rfl b1 (o1 + k * timR.n) rfl (timR.cells y) _ R2.out Try.underlying54 rfl (timOk.row y) ?_; simp only [Act.put, List.setIfInBounds_toArray, List.set_cons_succ, List.set_cons_zero]; go_big_quiet_on)
              | (go_big_quiet_op; first | go_big_quiet_on | go_big_quiet_call ((go_at_call 69; exact Calls.later (KB.out _))))))
          refine wpQuiet_nil ?_
          rintro ⟨W3, hb3⟩
          dsimp only
          clear d1 c1 R1 R2
          have HW3 := Lib.hid (bthen' HW.out hb3)
          clear hb3
          go_wp2_with fail
          go_roundw
          case rel => exact ⟨n9 + 1, _, rfl, by omega, by go_num, HW3.out, .inr ⟨n9, u9, rfl, HL.out⟩⟩
          case measure => simp [intOf]; omega
        | false =>
          rw [hbf, if_neg (by simp)] at e9
          subst e9
          have KB := Lib.hid (fun W => before_any W x y)
          rw [hbf] at KB
          clear hx r1 r2 hW hL e2 h9 hbf
          go_upto_region 5 with fail
          refine wp_region_later (by kernel_rfl) (by kernel_rfl) (Below.refl _ _) ?_
          repeat (first
            | go_big_quiet_skip
            | (go_big_quiet_want; first
              | (refine quiet_load_mid 54 _ rfl b1 (o1 + q * timR.n) rfl (timR.cells x) _ R1.out Try.underlying54 rfl (timOk.row x) ?_; simp only [Act.put, List.setIfInBounds_toArray, List.set_cons_succ, List.set_cons_zero]; go_big_quiet_on)
              | (refine quiet_load_mid 54 _ rfl b1 (o1 + n9 * timR.n) rfl (timR.cells y) _ R2.out Try.underlying54 rfl (timOk.row y) ?_; simp only [Act.put, List.setIfInBounds_toArray, List.set_cons_succ, List.set_cons_zero]; go_big_quiet_on)
              | (go_big_quiet_op; first | go_big_quiet_on | go_big_quiet_call ((go_at_call 69; exact Calls.later (KB.out _))))))
          refine wpQuiet_nil ?_
          rintro ⟨W3, hb3⟩
          dsimp only
          clear d1 c1 R1 R2
          have HW3 := Lib.hid (bthen' HW.out hb3)
          clear hb3
          go_wp2_with fail
          go_roundw
          case rel => exact ⟨q + 1, _, rfl, by omega, by go_num, HW3.out, .inr ⟨n9, u9, rfl, HL.out⟩⟩
          case measure => simp [intOf]; omega
    · obtain rfl : q = M.length := by omega
      obtain ⟨kk, rfl, hp⟩ : ∃ kk : Int, kv = .int .i64 kk ∧ FstP M kk := by
        rcases hR with ⟨h0, rfl⟩ | ⟨k, y, rfl, hL⟩
        · exact ⟨-1, rfl, .inl ⟨List.eq_nil_of_length_eq_zero h0, rfl⟩⟩
        · exact ⟨k, rfl, hL.fin⟩
      have HP := Lib.hid hp
      clear hp hR hW
      go_wp2_with fail
      go_ret
      exact ⟨⟨kk, rfl, HP.out⟩, bthen' HB.out HW.out⟩
end Go.Proofs.Ytkbjlpdmmbldpaa

/-! The document's due: Next, without. -/
set_option linter.unusedVariables false
set_option linter.unusedSimpArgs false
set_option maxRecDepth 100000
namespace Go.Proofs.Ytkbjlpdmmbldpaa
open Go.RowKit

theorem bef_min {M : List Tm} {y : Tm} (h : ∀ z ∈ M, befT z y = false) : ∀ z ∈ M, y.t ≤ z.t := fun z hz => by
  have := (bef_no _ _).1 (h z hz)
  omega
set_option maxHeartbeats 2000000 in
theorem rdnext_any (w : World) (now : Nat) (v : Value) (M : List Tm) (hv : Reads timR w v M) (hM : M.length ≤ 100000) :
    Calls Try.prog 36 #[.agg #[.int .u64 (now : Int), v]] w (NextP w M) := by
  obtain ⟨av, cv, rfl⟩ := hv.form
  have hb : Below w.heap.size w (w.alloc (.cells [.int .u64 (now : Int), .slice av M.length cv].toArray 63)) := (Below.refl _ _).alloc (Nat.le_refl _) _
  have hC := Cel.new w 63 [.int .u64 (now : Int), .slice av M.length cv]
  obtain ⟨W1, hW1⟩ : ∃ W1, W1 = w.alloc (.cells [.int .u64 (now : Int), .slice av M.length cv].toArray 63) := ⟨_, rfl⟩
  rw [← hW1] at hb hC
  have HV := Lib.hid (hv.below hb)
  have HB := Lib.hid hb
  have HC := Lib.hid hC
  have rr := hC.range
  have KL := Lib.hid (rleast_any W1 now _ M (hv.below hb) hM)
  clear hv hC hb
  go_enter Try.func36, Try.ntmps36
  go_upto_region 1 with fail
  show Code.wp _ _ _ _ (w.alloc (.cells [.int .u64 (now : Int), .slice av M.length cv].toArray 63))
  rw [← hW1]
  clear hW1
  go_upto_region 2 with (first
    | (refine wpList_load_mid rfl 63 _ rfl w.heap.size 0 rfl [.int .u64 (now : Int), .slice av M.length cv] _ rr Try.underlying63 rfl dRow ?_)
    | (go_at_call 60; refine KL.out.mono ?_; rintro e W2 ⟨⟨k, rfl, hk⟩, hb2⟩))
  clear rr
  have c1 := (HC.out.below hb2).get (i := 1) rfl
  have HB2 := Lib.hid (bthen' HB.out hb2)
  have HV2 := Lib.hid (HV.out.below hb2)
  clear hb2
  rcases hk with ⟨h0, rfl⟩ | ⟨n, y, rfl, hy, hmin⟩
  · have HN := Lib.hid (show NextP w M (.returned (.tuple #[.int .u64 0, .bool false])) W2 from ⟨HB2.out, .inl ⟨h0, rfl⟩⟩)
    clear h0
    go_wp2_with fail
    go_ret2
    exact HN.out
  · have hn := (List.getElem?_eq_some_iff.1 hy).1
    have hmn := bef_min hmin
    have hym := List.mem_of_getElem? hy
    have HN := Lib.hid (show NextP w M (.returned (.tuple #[.int .u64 (y.t : Int), .bool true])) W2 from ⟨HB2.out, .inr ⟨y.t, ⟨y, hym, rfl⟩, hmn, rfl⟩⟩)
    obtain ⟨b1, o1, rfl, r1⟩ := HV2.out.at hy
    have c3 := tim_t r1
    have qk : decide ((n : Int) < 0) = false := by simp
    clear hmn hym hmin hy r1
    go_wp2_with fail
    go_ret2
    exact HN.out

theorem erase_skip {M : List Tm} {q : Nat} {x : Tm} (hx : M[q]? = some x) : (M.take q).eraseIdx q = (M.take (q + 1)).eraseIdx q := by
  have hq := (List.getElem?_eq_some_iff.1 hx).1
  rw [← take_snoc hx, List.eraseIdx_append_of_length_le (by simp; omega)]
  have : q - (M.take q).length = 0 := by simp; omega
  rw [this, List.eraseIdx_of_length_le (by simp; omega)]
  simp
theorem erase_add {M : List Tm} {q a : Nat} {x : Tm} (hx : M[q]? = some x) (h : q ≠ a) : (M.take (q + 1)).eraseIdx a = (M.take q).eraseIdx a ++ [x] := by
  have hq := (List.getElem?_eq_some_iff.1 hx).1
  have hl : (M.take q).length = q := by simp; omega
  rw [← take_snoc hx]
  rcases Nat.lt_or_ge a q with h9 | h9
  · rw [List.eraseIdx_append_of_lt_length (by omega)]
  · rw [List.eraseIdx_append_of_length_le (by omega), List.eraseIdx_of_length_le (by simp; omega), List.eraseIdx_of_length_le (by omega)]
theorem erase_len (M : List Tm) (a : Nat) : (M.eraseIdx a).length ≤ M.length := by
  rw [List.length_eraseIdx]; split <;> omega
def WoP (w : World) (M : List Tm) (a : Nat) (e : Ending) (w' : World) : Prop := ∃ v, e = .returned v ∧ Below w.heap.size w w' ∧ Owns timR w.heap.size w' v (M.eraseIdx a)
set_option maxHeartbeats 4000000 in
theorem rwo_any (w : World) (now : Nat) (v : Value) (M : List Tm) (a : Nat) (hv : Reads timR w v M) (hM : M.length ≤ 100000) (ha : a ≤ 100000) :
    Calls Try.prog 68 #[.agg #[.int .u64 (now : Int), v], .int .i64 a] w (WoP w M a) := by
  obtain ⟨av, cv, rfl⟩ := hv.form
  have hb : Below w.heap.size w (w.alloc (.cells [.int .u64 (now : Int), .slice av M.length cv].toArray 63)) := (Below.refl _ _).alloc (Nat.le_refl _) _
  have hC := Cel.new w 63 [.int .u64 (now : Int), .slice av M.length cv]
  obtain ⟨W1, hW1⟩ : ∃ W1, W1 = w.alloc (.cells [.int .u64 (now : Int), .slice av M.length cv].toArray 63) := ⟨_, rfl⟩
  rw [← hW1] at hb hC
  have hs1 : w.heap.size ≤ W1.heap.size := hb.size
  have hO2 := Owns.made (R := timR) (B := W1.heap.size) (w := W1) (Nat.le_refl _)
  have hb2 : Below W1.heap.size W1 (W1.alloc (.cells #[] timR.ty)) := (Below.refl _ _).alloc (Nat.le_refl _) _
  obtain ⟨W2, hW2⟩ : ∃ W2, W2 = W1.alloc (.cells #[] timR.ty) := ⟨_, rfl⟩
  rw [← hW2] at hO2 hb2
  have HV := Lib.hid (hv.below hb)
  have HB := Lib.hid hb
  have HC := Lib.hid hC
  have HB2 := Lib.hid hb2
  have HO2 := Lib.hid hO2
  clear hv hC hb hO2 hb2 hs1
  go_enter Try.func68, Try.ntmps68
  go_upto_region 1 with fail
  show Code.wp _ _ _ _ (w.alloc (.cells [.int .u64 (now : Int), .slice av M.length cv].toArray 63))
  rw [← hW1]
  clear hW1
  go_upto_region 2 with fail
  show Code.wp _ _ _ _ (W1.alloc (.cells #[] timR.ty))
  rw [← hW2]
  clear hW2
  go_wp2_with fail
  go_loopw [5, 6] (fun n j wr => ∃ q : Nat, q ≤ M.length ∧ j = .int .i64 q ∧ Below W1.heap.size W1 wr ∧ Owns timR W1.heap.size wr n ((M.take q).eraseIdx a)) (fun _ j _ => M.length - (intOf j).toNat)
  case atStart => exact ⟨0, by omega, rfl, HB2.out, by simpa using HO2.out⟩
  case round =>
    clear HO2
    obtain ⟨q, hq, rfl, hW, hO⟩ := hrel
    have HO := Lib.hid hO
    have hwr := hW.size
    have hw2 := HB.out.size
    have c1 := (HC.out.below hW).get (i := 1) rfl
    clear hO
    by_cases hlt : q < M.length
    · obtain ⟨y, hy⟩ : ∃ y, M[q]? = some y := ⟨_, List.getElem?_eq_getElem hlt⟩
      obtain ⟨b, off, rfl, hr2⟩ := (HV.out.below hW).at hy
      have hl2 : ((M.take q).eraseIdx a).length ≤ q := by
        have := erase_len (M.take q) a
        simp only [List.length_take] at this
        omega
      by_cases hqi : q = a
      · have hqb : ((q : Int) != (a : Int)) = false := by simp [hqi]
        have T := Lib.hid (by have := erase_skip hy; rw [hqi] at this ⊢; exact this : (M.take q).eraseIdx a = (M.take (q + 1)).eraseIdx a)
        clear hy hqi hr2
        go_wp2_with fail
        go_roundw
        case rel => exact ⟨q + 1, by omega, by go_num, hW, by rw [← T.out]; exact HO.out⟩
        case measure => simp [intOf]; omega
      · have hqb : ((q : Int) != (a : Int)) = true := by simp; omega
        have T := Lib.hid (erase_add hy hqi).symm
        clear hy hqi
        go_wp2_with (first
          | (refine wpList_load_mid rfl 54 _ rfl b (off + q * timR.n) rfl (timR.cells y) _ hr2 Try.underlying54 rfl (timOk.row y) ?_)
          | (refine wl_build_rec timOk rfl _ rfl y rfl ?_; have hx5 := built_range (R := timR) (w := wr) y; have hb5 : Below wr.heap.size wr (wr.alloc (.cells (timR.val y).cells timR.ty)) := (Below.refl _ _).alloc (Nat.le_refl _) _; generalize wr.alloc (.cells (timR.val y).cells timR.ty) = W5 at hx5 hb5 ⊢; have hOo := HO.out.below hb5; have hszT := hb5.size)
          | (refine wl_append_rec timOk rfl _ _ rfl W1.heap.size _ ((M.take q).eraseIdx a) rfl hOo wr.heap.size 0 1 y rfl hx5 (by omega) (by omega) ?_; intro g cap W6 hO6 hg6 hat6))
        rw [T.out] at hO6
        have hW6 := (bthen' hW hb5).grown hg6 (by have := hb5.size; omega) (fun k hk => (hOo.lt k hk).1)
        go_roundw
        case rel => exact ⟨q + 1, by omega, by go_num, hW6, hO6⟩
        case measure => simp [intOf]; omega
    · obtain rfl : q = M.length := by omega
      have hO := HO.out
      rw [List.take_length] at hO
      have HO3 := Lib.hid hO
      clear HO hO
      go_wp2_with fail
      go_ret
      exact ⟨_, rfl, bthen' HB.out hW, HO3.out.mono HB.out.size⟩
end Go.Proofs.Ytkbjlpdmmbldpaa

/-! The document's due: Clear, Set, Go. -/
set_option linter.unusedVariables false
set_option linter.unusedSimpArgs false
set_option maxRecDepth 100000
namespace Go.Proofs.Ytkbjlpdmmbldpaa
open Go.RowKit

theorem plc_val {M : List Tm} {k i : Int} : (plcT M k i = -1 ∧ ∀ y ∈ M, isT k i y = false) ∨ ∃ (n : Nat) (y : Tm), plcT M k i = (n : Int) ∧ M[n]? = some y ∧ isT k i y = true := by
  unfold plcT
  cases h : M.findIdx? (isT k i) with
  | none => exact .inl ⟨rfl, by rw [List.findIdx?_eq_none_iff] at h; exact h⟩
  | some n =>
    rw [List.findIdx?_eq_some_iff_getElem] at h
    obtain ⟨hn, h1, h2⟩ := h
    exact .inr ⟨n, M[n], rfl, List.getElem?_eq_getElem hn, h1⟩
/-- The list without a timer. -/
def woT (M : List Tm) (k i : Int) : List Tm := M.eraseIdx (plcT M k i).toNat
def clrT (M : List Tm) (k i : Int) : List Tm := if plcT M k i < 0 then M else woT M k i
theorem clr_len (M : List Tm) (k i : Int) : (clrT M k i).length ≤ M.length := by
  unfold clrT woT
  split
  · exact Nat.le_refl _
  · exact erase_len _ _
def RClearP (G : Nat → Prop) (w : World) (r now : Nat) (M : List Tm) (k i : Int) (e : Ending) (w' : World) : Prop :=
  e = .returned (.bool (decide (0 ≤ plcT M k i))) ∧ UpdP G w w' ∧ RW (Gr G w w') w' r now (clrT M k i)
set_option maxHeartbeats 4000000 in
theorem rdclear_any {G : Nat → Prop} {w : World} {r now : Nat} {M : List Tm} (h : RW G w r now M) (k i : Int) (hM : M.length ≤ 100000) :
    Calls Try.prog 57 #[.pointer (some ⟨r, 0, none⟩), .int .i64 k, .int .i64 i] w (RClearP G w r now M k i) := by
  have H := Lib.hid h
  obtain ⟨⟨v, h1, h2, h3, h4⟩, h5⟩ := h
  obtain ⟨av, cv, rfl⟩ := h3.form
  have rr := h1.range
  have KF := Lib.hid (rdfind_any w now _ M k i (h3.lts timOk) hM)
  have H1 := Lib.hid h1
  have HV := Lib.hid (h3.lts timOk)
  clear h1 h3
  rcases plc_val (M := M) (k := k) (i := i) with ⟨hp, -⟩ | ⟨n, y, hp, hy, -⟩
  · have e0 := Lib.hid (show decide (0 ≤ plcT M k i) = false from by rw [hp]; decide)
    have e1 := Lib.hid (show clrT M k i = M from by unfold clrT; rw [hp, if_pos (by decide)])
    rw [hp] at KF
    clear hp
    go_enter Try.func57, Try.ntmps57
    go_wp2_with (first
      | (refine wpList_load_mid rfl 63 _ rfl r 0 rfl [.int .u64 (now : Int), .slice av M.length cv] _ rr Try.underlying63 rfl dRow ?_)
      | (go_at_call 35; refine KF.out.mono ?_; rintro e W2 ⟨rfl, hb2⟩))
    go_ret
    exact ⟨by rw [e0.out]; rfl, UpdP.ofB hb2, by rw [e1.out]; exact H.out.same hb2⟩
  · have hn := (List.getElem?_eq_some_iff.1 hy).1
    have e0 := Lib.hid (show decide (0 ≤ plcT M k i) = true from by rw [hp]; simp)
    have e1 := Lib.hid (show clrT M k i = M.eraseIdx n from by unfold clrT woT; rw [hp, if_neg (by omega)]; rfl)
    have qk : decide ((n : Int) < 0) = false := by simp
    rw [hp] at KF
    clear hp hy
    go_enter Try.func57, Try.ntmps57
    go_upto_region 4 with (first
      | (refine wpList_load_mid rfl 63 _ rfl r 0 rfl [.int .u64 (now : Int), .slice av M.length cv] _ rr Try.underlying63 rfl dRow ?_)
      | (go_at_call 35; refine KF.out.mono ?_; rintro e W2 ⟨rfl, hb2⟩))
    have rr2 := (H1.out.below hb2).range
    have KW := Lib.hid (rwo_any W2 now _ M n (HV.out.below hb2) hM (by omega))
    clear rr
    go_wp2_with (first
      | (refine wpList_load_mid rfl 63 _ rfl r 0 rfl [.int .u64 (now : Int), .slice av M.length cv] _ rr2 Try.underlying63 rfl dRow ?_)
      | (go_at_call 68; refine KW.out.mono ?_; rintro e W3 ⟨v3, rfl, hb3, ho3⟩; obtain ⟨a3, c3, rfl⟩ := ho3.form; have HO3 := Lib.hid ho3; have hb23 := bthen' hb2 hb3; have HC3 := Lib.hid (H1.out.below hb23); have k1 := HC3.out.get (i := 1) rfl; have k1f := HC3.out.free (i := 1) rfl; clear ho3 rr2))
    go_ret
    have hlow := HO3.out.lt
    have hs2 := hb2.size
    have hw6 : (W3.setCell ⟨r, 1, none⟩ (.slice a3 (M.eraseIdx n).length c3)).heap.size = W3.heap.size := by simp [World.setCell]
    have hrl := H.out.lt r h2
    have hU : UpdP G w (W3.setCell ⟨r, 1, none⟩ (.slice a3 (M.eraseIdx n).length c3)) := wt_gr (UpdP.ofB hb23) (UpdP.of ((Upd.refl [r] _).setCell (by simp) _) (fun k hk => by simp at hk; subst hk; exact .inl h2))
    refine ⟨by rw [e0.out]; rfl, hU, ⟨⟨_, HC3.out.set 1 _, .inl h2, ?_, ?_⟩, ?_⟩⟩
    · rw [e1.out]
      exact (HO3.out.mono (Nat.zero_le _)).upd ((Upd.refl [r] _).setCell (by simp) _) (fun k hk => by have := (hlow k hk).1; simp; omega)
    · intro k hk
      have := hlow k hk
      exact ⟨.inr ⟨by omega, by rw [hw6]; exact this.2⟩, by omega⟩
    · intro k hk
      rcases hk with hk | hk
      · have := H.out.lt k hk; have := hb23.size; rw [hw6]; omega
      · exact hk.2
def dsetT (M : List Tm) (k i : Int) (t : Nat) : List Tm := if mayB k i = true then clrT M k i ++ [⟨k, i, t⟩] else M
def RSetP (G : Nat → Prop) (w : World) (r now : Nat) (M : List Tm) (k i : Int) (t : Nat) (e : Ending) (w' : World) : Prop :=
  e = .returned (.int .i64 (if mayB k i = true then 0 else 1)) ∧ UpdP G w w' ∧ RW (Gr G w w') w' r now (dsetT M k i t)
set_option maxHeartbeats 4000000 in
theorem rdset_any {G : Nat → Prop} {w : World} {r now : Nat} {M : List Tm} (h : RW G w r now M) (k i : Int) (t : Nat) (hM : M.length ≤ 90000) :
    Calls Try.prog 56 #[.pointer (some ⟨r, 0, none⟩), .int .i64 k, .int .i64 i, .int .u64 (t : Int)] w (RSetP G w r now M k i t) := by
  have H := Lib.hid h
  have KM := Lib.hid (rmay_any w k i)
  have KC := Lib.hid (rdclear_any h k i (by omega))
  clear h
  cases hm : mayB k i with
  | false =>
    have e0 := Lib.hid (show (if mayB k i = true then (0 : Int) else 1) = 1 from by rw [hm]; rfl)
    have e1 := Lib.hid (show dsetT M k i t = M from by unfold dsetT; rw [hm]; rfl)
    rw [hm] at KM
    clear hm
    go_enter Try.func56, Try.ntmps56
    go_wp2_with (go_at_call 67; refine KM.out.mono ?_; rintro e w' ⟨rfl, rfl⟩)
    go_ret
    exact ⟨by rw [e0.out]; rfl, UpdP.ofB (Below.refl _ _), by rw [e1.out]; exact H.out.same (Below.refl _ _)⟩
  | true =>
    have e0 := Lib.hid (show (if mayB k i = true then (0 : Int) else 1) = 0 from by rw [hm]; rfl)
    have e1 := Lib.hid (show dsetT M k i t = clrT M k i ++ [⟨k, i, t⟩] from by unfold dsetT; rw [hm]; rfl)
    have hl2 : (clrT M k i).length ≤ 90000 := Nat.le_trans (clr_len _ _ _) hM
    rw [hm] at KM
    clear hm
    go_enter Try.func56, Try.ntmps56
    go_upto_region 4 with (first
      | (go_at_call 57; refine KC.out.mono ?_; rintro e W2 ⟨rfl, hu2, hw2⟩)
      | (go_at_call 67; refine KM.out.mono ?_; rintro e w' ⟨rfl, rfl⟩))
    have HU2 := Lib.hid hu2
    have HW2 := Lib.hid hw2
    clear hu2 KC KM
    obtain ⟨⟨v, h1, h2, h3, h4⟩, h5⟩ := hw2
    obtain ⟨av, cv, rfl⟩ := h3.form
    have c1 := h1.get (i := 1) rfl
    have H1 := Lib.hid h1
    have H3 := Lib.hid h3
    clear h1 h3
    go_wp2_with (first
      | (refine wl_build_rec timOk rfl _ rfl ⟨k, i, t⟩ rfl ?_; have hx5 := built_range (R := timR) (w := W2) ⟨k, i, t⟩; have hb5 : Below W2.heap.size W2 (W2.alloc (.cells (timR.val ⟨k, i, t⟩).cells timR.ty)) := (Below.refl _ _).alloc (Nat.le_refl _) _; generalize W2.alloc (.cells (timR.val ⟨k, i, t⟩).cells timR.ty) = W5 at hx5 hb5 ⊢; have hO5 := H3.out.below hb5)
      | (refine wl_append_rec timOk rfl _ _ rfl 0 _ (clrT M k i) rfl hO5 W2.heap.size 0 1 ⟨k, i, t⟩ rfl hx5 (by omega) (by omega) ?_; intro g cap W6 hO6 hg6 hat6; have hC6 : Hid (Cel W6 r [.int .u64 (now : Int), .slice av (clrT M k i).length cv]) := Lib.hid (cel_of_heap (H1.out.below hb5) (hg6.block r (Nat.lt_of_lt_of_le (HW2.out.lt r h2) hb5.size) (fun e9 => (h4 r e9.symm).2 rfl))); have c6 := hC6.out.get (i := 1) rfl; have c6f := hC6.out.free (i := 1) rfl))
    go_ret
    have hs6 := hg6.size
    have hs25 := hb5.size
    have hw6 : (W6.setCell ⟨r, 1, none⟩ (.slice (some ⟨g, 0, none⟩) ((clrT M k i).length + 1) cap)).heap.size = W6.heap.size := by simp [World.setCell]
    have hgr : g ≠ r := by
      rcases hat6 with e9 | e9
      · exact (h4 g e9).2
      · have := HW2.out.lt r h2; omega
    have hU : UpdP (Gr G w W2) W2 (W6.setCell ⟨r, 1, none⟩ (.slice (some ⟨g, 0, none⟩) ((clrT M k i).length + 1) cap)) := by
      have hu5 : UpdP (Gr G w W2) W2 W5 := UpdP.ofB hb5
      have hu6 : UpdP (Gr G w W2) W2 W6 := wt_gr hu5 ⟨hg6.os, hg6.tape, hg6.output, hg6.size, fun k hk hn => hg6.block k hk (fun e9 => hn (h4 k e9.symm).1)⟩
      exact wt_gr hu6 (UpdP.of ((Upd.refl [r] _).setCell (by simp) _) (fun k hk => by simp at hk; subst hk; exact .inl h2))
    have hs2 := HU2.out.size
    refine ⟨by rw [e0.out]; rfl, HU2.out.trans hU, ⟨⟨_, hC6.out.set 1 _, Gr.sub hs2 hU.size (.inl h2), ?_, ?_⟩, ?_⟩⟩
    · rw [e1.out]
      exact hO6.upd ((Upd.refl [r] _).setCell (by simp) _) (fun k hk => by cases hk; simpa using hgr)
    · intro k hk
      cases hk
      refine ⟨?_, hgr⟩
      rcases hat6 with e9 | e9
      · exact Gr.sub hs2 hU.size (.inl (h4 g e9).1)
      · have := (hO6.lt g rfl).2
        exact .inr ⟨by show w.heap.size ≤ g; omega, by rw [hw6]; exact this⟩
    · intro k hk
      rcases hk with hk | hk
      · have := H.out.lt k hk; rw [hw6]; omega
      · exact hk.2
def RGoP (G : Nat → Prop) (w : World) (r now : Nat) (M : List Tm) (to2 m : Nat) (b : Bool) (e : Ending) (w' : World) : Prop :=
  ((b = true ∧ m ≤ to2) ∧ e = .returned (.bool false) ∧ UpdP G w w' ∧ RW (Gr G w w') w' r now M) ∨ (¬ (b = true ∧ m ≤ to2) ∧ e = .returned (.bool true) ∧ UpdP G w w' ∧ RW (Gr G w w') w' r (max now to2) M)
theorem RW.setNow {G : Nat → Prop} {w w2 : World} {r now now2 : Nat} {M : List Tm} (h : RW G w r now M) (hb : Below w.heap.size w w2) :
    UpdP G w (w2.setCell ⟨r, 0, none⟩ (.int .u64 (now2 : Int))) ∧ RW (Gr G w (w2.setCell ⟨r, 0, none⟩ (.int .u64 (now2 : Int)))) (w2.setCell ⟨r, 0, none⟩ (.int .u64 (now2 : Int))) r now2 M := by
  obtain ⟨⟨v, h1, h2, h3, h4⟩, h5⟩ := h
  have hw6 : (w2.setCell ⟨r, 0, none⟩ (.int .u64 (now2 : Int))).heap.size = w2.heap.size := by simp [World.setCell]
  have hs := hb.size
  refine ⟨wt_gr (UpdP.ofB hb) (UpdP.of ((Upd.refl [r] _).setCell (by simp) _) (fun k hk => by simp at hk; subst hk; exact .inl h2)), ⟨⟨v, (h1.below hb).set 0 _, .inl h2, (h3.below hb).upd ((Upd.refl [r] _).setCell (by simp) _) (fun k hk => by simpa using (h4 k hk).2), fun k hk => ⟨.inl (h4 k hk).1, (h4 k hk).2⟩⟩, fun k hk => ?_⟩⟩
  rcases hk with hk | hk
  · have := h5 k hk; rw [hw6]; omega
  · exact hk.2
set_option maxHeartbeats 4000000 in
theorem rdgo_any {G : Nat → Prop} {w : World} {r now : Nat} {M : List Tm} (h : RW G w r now M) (to2 : Nat) (hM : M.length ≤ 90000) (m : Nat) (b : Bool) (hn : NextIs M m b) :
    Calls Try.prog 59 #[.pointer (some ⟨r, 0, none⟩), .int .u64 (to2 : Int)] w (RGoP G w r now M to2 m b) := by
  have H := Lib.hid h
  obtain ⟨a, c, hcel, hrd⟩ := h.parts
  have rr := hcel.range
  have KN := Lib.hid ((rdnext_any w now _ M hrd (by omega)).mono (hn.q w))
  have HC := Lib.hid hcel
  clear h hcel hrd hn
  by_cases hno : b = true ∧ m ≤ to2
  · have HNO := Lib.hid hno
    obtain ⟨rfl, hm⟩ := hno
    have q1 : decide ((m : Int) ≤ (to2 : Int)) = true := by simp; omega
    have q2 : decide (m ≤ to2) = true := by simp; omega
    clear hm
    go_enter Try.func59, Try.ntmps59
    go_wp2_with (first
      | (refine wpList_load_mid rfl 63 _ rfl r 0 rfl [.int .u64 (now : Int), .slice a M.length c] _ rr Try.underlying63 rfl dRow ?_)
      | (go_at_call 36; refine KN.out.mono ?_; rintro e W2 ⟨rfl, hb2⟩))
    go_ret
    exact .inl ⟨⟨rfl, HNO.out.2⟩, rfl, UpdP.ofB hb2, H.out.same hb2⟩
  · have HNO := Lib.hid hno
    have HSN := Lib.hid (fun W2 (hb : Below w.heap.size w W2) => RW.setNow (now2 := max now to2) H.out hb)
    have hmx : (((max now to2 : Nat)) : Int) = max (now : Int) (to2 : Int) := by omega
    rw [hmx] at HSN
    cases b with
    | false =>
      clear hno hmx
      go_enter Try.func59, Try.ntmps59
      go_wp2_with (first
        | (refine wpList_load_mid rfl 63 _ rfl r 0 rfl [.int .u64 (now : Int), .slice a M.length c] _ rr Try.underlying63 rfl dRow ?_)
        | (go_at_call 36; refine KN.out.mono ?_; rintro e W2 ⟨rfl, hb2⟩; have k0 := (HC.out.below hb2).get (i := 0) rfl; have k0f := (HC.out.below hb2).free (i := 0) rfl))
      go_ret
      obtain ⟨g1, g2⟩ := HSN.out _ hb2
      exact .inr ⟨fun h9 => HNO.out ⟨by simpa using h9.1, h9.2⟩, rfl, g1, g2⟩
    | true =>
      have h8 : ¬ m ≤ to2 := fun h9 => hno ⟨rfl, h9⟩
      have q1 : decide ((m : Int) ≤ (to2 : Int)) = false := by simp; omega
      have q2 : decide (m ≤ to2) = false := by simp; omega
      clear hno hmx h8
      go_enter Try.func59, Try.ntmps59
      go_wp2_with (first
        | (refine wpList_load_mid rfl 63 _ rfl r 0 rfl [.int .u64 (now : Int), .slice a M.length c] _ rr Try.underlying63 rfl dRow ?_)
        | (go_at_call 36; refine KN.out.mono ?_; rintro e W2 ⟨rfl, hb2⟩; have k0 := (HC.out.below hb2).get (i := 0) rfl; have k0f := (HC.out.below hb2).free (i := 0) rfl))
      go_ret
      obtain ⟨g1, g2⟩ := HSN.out _ hb2
      exact .inr ⟨fun h9 => HNO.out ⟨by simp, h9.2⟩, rfl, g1, g2⟩
end Go.Proofs.Ytkbjlpdmmbldpaa

/-! The document's due: First. -/
set_option linter.unusedVariables false
set_option linter.unusedSimpArgs false
set_option maxRecDepth 100000
namespace Go.Proofs.Ytkbjlpdmmbldpaa
open Go.RowKit

/-- What the document's First tells, and what it leaves. -/
def RDFirstP (G : Nat → Prop) (w : World) (r now : Nat) (M : List Tm) (to2 : Nat) (e : Ending) (w' : World) : Prop :=
  (((M = [] ∨ ∃ y ∈ M, (∀ z ∈ M, befT z y = false) ∧ to2 < y.t) ∧ e = .returned (.tuple #[timR.val zeroTm, .bool false]) ∧ UpdP G w w' ∧ RW (Gr G w w') w' r now M)) ∨
  ∃ (n : Nat) (y : Tm), M[n]? = some y ∧ (∀ z ∈ M, befT z y = false) ∧ y.t ≤ to2 ∧ e = .returned (.tuple #[timR.val y, .bool true]) ∧ UpdP G w w' ∧ RW (Gr G w w') w' r (max now y.t) (M.eraseIdx n)
theorem RW.wider {G G2 : Nat → Prop} {w : World} {r now : Nat} {M : List Tm} (h : RW G w r now M) (hG : ∀ k, G k → G2 k) (hlt : ∀ k, G2 k → k < w.heap.size) : RW G2 w r now M := by
  obtain ⟨⟨v, h1, h2, h3, h4⟩, h5⟩ := h
  exact ⟨⟨v, h1, hG _ h2, h3, fun k hk => ⟨hG _ (h4 k hk).1, (h4 k hk).2⟩⟩, hlt⟩
theorem RW.rowed {G : Nat → Prop} {w w1 w2 : World} {r now q : Nat} {M : List Tm} (hb : Below w.heap.size w w1) (hu : UpdP G w1 w2) (h : RW (Gr G w1 w2) w2 r now M) (hlt : ∀ k, G k → k < w.heap.size) (cs : Array Value) (hq : w.heap.size ≤ q) (hq1 : q < w1.heap.size) :
    UpdP G w (w2.setRow q cs) ∧ RW (Gr G w (w2.setRow q cs)) (w2.setRow q cs) r now M := by
  have hr := setRow_updP w2 q cs
  have h0 := hb.size
  have h1 := hr.size
  have h2 := hu.size
  have hu2 : UpdP G w w2 := wt_gr (UpdP.ofB hb) hu
  have hqG : ¬ Gr G w1 w2 q := fun h9 => by
    rcases h9 with h9 | h9
    · have := hlt q h9; omega
    · omega
  refine ⟨⟨hr.os.trans hu2.os, hr.tape.trans hu2.tape, hr.output.trans hu2.output, by omega, fun k hk hn => (hr.block k (by omega) (by omega)).trans (hu2.block k hk hn)⟩, (h.updP hr (fun k hk h9 => by subst hk; exact hqG h9)).wider (fun k hk => ?_) (fun k hk => ?_)⟩
  · rcases hk with h9 | h9
    · exact .inl h9
    · exact .inr ⟨by omega, by omega⟩
  · rcases hk with h9 | h9
    · have := hlt k h9; omega
    · exact h9.2
theorem RW.setList {G : Nat → Prop} {w w4 : World} {r now : Nat} {M M2 : List Tm} {a4 : Option Addr} {c4 : Nat} (h : RW G w r now M) (hb : Below w.heap.size w w4) (ho : Owns timR w.heap.size w4 (.slice a4 M2.length c4) M2) :
    UpdP G w (w4.setCell ⟨r, 1, none⟩ (.slice a4 M2.length c4)) ∧ RW (Gr G w (w4.setCell ⟨r, 1, none⟩ (.slice a4 M2.length c4))) (w4.setCell ⟨r, 1, none⟩ (.slice a4 M2.length c4)) r now M2 := by
  obtain ⟨⟨v, h1, h2, h3, h4⟩, h5⟩ := h
  have hlow := ho.lt
  have hw6 : (w4.setCell ⟨r, 1, none⟩ (.slice a4 M2.length c4)).heap.size = w4.heap.size := by simp [World.setCell]
  have hrl := h5 r h2
  have hs := hb.size
  refine ⟨wt_gr (UpdP.ofB hb) (UpdP.of ((Upd.refl [r] _).setCell (by simp) _) (fun k hk => by simp at hk; subst hk; exact .inl h2)), ⟨⟨_, (h1.below hb).set 1 _, .inl h2, ?_, ?_⟩, ?_⟩⟩
  · exact (ho.mono (Nat.zero_le _)).upd ((Upd.refl [r] _).setCell (by simp) _) (fun k hk => by have := (hlow k hk).1; simp; omega)
  · intro k hk
    have := hlow k hk
    exact ⟨.inr ⟨by omega, by rw [hw6]; exact this.2⟩, by omega⟩
  · intro k hk
    rcases hk with hk | hk
    · have := h5 k hk; rw [hw6]; omega
    · exact hk.2
theorem RW.two {G : Nat → Prop} {w w1 w2 : World} {r now : Nat} {M : List Tm} (u1 : UpdP G w w1) (u2 : UpdP (Gr G w w1) w1 w2) (h : RW (Gr (Gr G w w1) w1 w2) w2 r now M) (hlt : ∀ k, G k → k < w.heap.size) : UpdP G w w2 ∧ RW (Gr G w w2) w2 r now M := by
  have s1 := u1.size
  have s2 := u2.size
  refine ⟨u1.trans u2, h.wider (fun k hk => Gr.sub s1 s2 hk) (fun k hk => ?_)⟩
  rcases hk with hk | hk
  · have := hlt k hk; omega
  · exact hk.2
set_option maxHeartbeats 8000000 in
theorem rdfirst_any {G : Nat → Prop} {w : World} {r now : Nat} {M : List Tm} (h : RW G w r now M) (to2 : Nat) (hM : M.length ≤ 90000) :
    Calls Try.prog 58 #[.pointer (some ⟨r, 0, none⟩), .int .u64 (to2 : Int)] w (RDFirstP G w r now M to2) := by
  have hb1 : Below w.heap.size w (w.alloc (.cells #[.int .i64 0, .int .i64 0, .int .u64 0] 54)) := (Below.refl _ _).alloc (Nat.le_refl _) _
  have hn1 := heap_alloc_new w (.cells #[.int .i64 0, .int .i64 0, .int .u64 0] 54)
  obtain ⟨W1, hW1⟩ : ∃ W1, W1 = w.alloc (.cells #[.int .i64 0, .int .i64 0, .int .u64 0] 54) := ⟨_, rfl⟩
  rw [← hW1] at hb1 hn1
  obtain ⟨q, hq⟩ : ∃ q, q = w.heap.size := ⟨_, rfl⟩
  have HQ := Lib.hid hq
  have HN1 := Lib.hid (show W1.heap[q]? = some (.cells #[.int .i64 0, .int .i64 0, .int .u64 0] 54 (0, 0)) from by rw [hq]; exact hn1)
  have H := Lib.hid h
  have H1 := Lib.hid (h.below hb1)
  have hq1 : q < W1.heap.size := (Array.getElem?_eq_some_iff.1 HN1.out).1
  obtain ⟨⟨v, h1, h2, h3, h4⟩, h5⟩ := h.below hb1
  obtain ⟨av, cv, rfl⟩ := h3.form
  have rr := h1.range
  have KL := Lib.hid (rleast_any W1 now _ M (h3.lts timOk) (by omega))
  have HC := Lib.hid h1
  have HV := Lib.hid (h3.lts timOk)
  have HB1 := Lib.hid hb1
  clear hn1 hb1 h h1 h3
  go_enter Try.func58, Try.ntmps58
  go_upto_region 1 with fail
  show Code.wp _ _ _ _ (w.alloc (.cells #[.int .i64 0, .int .i64 0, .int .u64 0] 54))
  rw [← hW1, ← hq]
  clear hW1 hq
  go_upto_region 2 with (first
    | (refine wpList_load_mid rfl 63 _ rfl r 0 rfl [.int .u64 (now : Int), .slice av M.length cv] _ rr Try.underlying63 rfl dRow ?_)
    | (go_at_call 60; refine KL.out.mono ?_; rintro e W2 ⟨⟨kk, rfl, hk⟩, hb2⟩))
  clear rr KL
  have HN2 := Lib.hid ((hb2.block q (Array.getElem?_eq_some_iff.1 HN1.out).1).trans HN1.out)
  have HB2 := Lib.hid (bthen' HB1.out hb2)
  have HB12 := Lib.hid hb2
  have HC2 := Lib.hid (HC.out.below hb2)
  have HV2 := Lib.hid (HV.out.below hb2)
  have H2 := Lib.hid (H.out.below HB2.out)
  clear hb2 HN1 HC HV
  have c1 := HC2.out.get (i := 1) rfl
  rcases hk with ⟨h0, rfl⟩ | ⟨n, y, rfl, hy, hmin⟩
  · have HM0 := Lib.hid h0
    clear h0
    go_wp2_with (first
      | (refine wl_built rfl 54 _ rfl [] (by simp [Act.eval, Act.put]) _ built0 ?_)
      | (refine wpList_store_row rfl 54 _ _ rfl q #[.int .i64 0, .int .i64 0, .int .u64 0] rfl rfl 54 #[.int .i64 0, .int .i64 0, .int .u64 0] HN2.out (timRow3 _ rfl) rfl (timOne3 _ _ _) ?_))
    refine bodyPost_ret (results_row_tmp rfl _ _ q [.int .i64 0, .int .i64 0, .int .u64 0] _ rfl (row_reads (R := timR) zeroTm (setRow_heap _ HN2.out)) Try.underlying54 rfl (timRow3 _ rfl)) rfl ?_
    have hb9 : Below w.heap.size w (W2.setRow q #[.int .i64 0, .int .i64 0, .int .u64 0]) := below_row HB2.out (by have := HQ.out; omega) _
    exact .inl ⟨.inl HM0.out, rfl, UpdP.ofB hb9, H.out.same hb9⟩
  · have hn := (List.getElem?_eq_some_iff.1 hy).1
    have HY := Lib.hid hy
    have HMIN := Lib.hid hmin
    obtain ⟨b1, o1, rfl, r1⟩ := HV2.out.at hy
    have c3 := tim_t r1
    have qk : decide ((n : Int) < 0) = false := by simp
    have R1 := Lib.hid r1
    clear hy hmin r1
    by_cases hto : to2 < y.t
    · have q1 : decide ((y.t : Int) > (to2 : Int)) = true := by simp; omega
      have q2 : decide ((to2 : Int) < (y.t : Int)) = true := by simp; omega
      have q3 : decide (to2 < y.t) = true := by simp; omega
      have HTO := Lib.hid hto
      clear hto
      go_wp2_with (first
        | (refine wl_built rfl 54 _ rfl [] (by simp [Act.eval, Act.put]) _ built0 ?_)
        | (refine wpList_store_row rfl 54 _ _ rfl q #[.int .i64 0, .int .i64 0, .int .u64 0] rfl rfl 54 #[.int .i64 0, .int .i64 0, .int .u64 0] HN2.out (timRow3 _ rfl) rfl (timOne3 _ _ _) ?_))
      refine bodyPost_ret (results_row_tmp rfl _ _ q [.int .i64 0, .int .i64 0, .int .u64 0] _ rfl (row_reads (R := timR) zeroTm (setRow_heap _ HN2.out)) Try.underlying54 rfl (timRow3 _ rfl)) rfl ?_
      have hb9 : Below w.heap.size w (W2.setRow q #[.int .i64 0, .int .i64 0, .int .u64 0]) := below_row HB2.out (by have := HQ.out; omega) _
      exact .inl ⟨.inr ⟨y, List.mem_of_getElem? HY.out, HMIN.out, HTO.out⟩, rfl, UpdP.ofB hb9, H.out.same hb9⟩
    · have q1 : decide ((y.t : Int) > (to2 : Int)) = false := by simp; omega
      have q2 : decide ((to2 : Int) < (y.t : Int)) = false := by simp; omega
      have q3 : decide (to2 < y.t) = false := by simp; omega
      have HTO := Lib.hid hto
      clear hto
      have hrr2 := Lib.hid (fun W3 (hb : Below W2.heap.size W2 W3) => (HC2.out.below hb).range)
      have KW := Lib.hid (fun W3 (hb : Below W2.heap.size W2 W3) => rwo_any W3 now _ M n (HV2.out.below hb) (by omega) (by omega))
      go_upto_region 5 with (first
        | (refine wpList_load_mid rfl 54 _ rfl b1 (o1 + n * timR.n) rfl (timR.cells y) _ R1.out Try.underlying54 rfl (timOk.row y) ?_)
        | (refine wpList_store_row rfl 54 _ _ rfl W2.heap.size #[.int .i64 y.k, .int .i64 y.id, .int .u64 (y.t : Int)] rfl rfl 54 #[.int .i64 0, .int .i64 0, .int .u64 0] (heap_alloc_new _ _) (timRow3 _ rfl) rfl (timOne3 _ _ _) ?_))
      show Code.wp _ _ _ _ ((W2.alloc (.cells #[.int .i64 0, .int .i64 0, .int .u64 0] 54)).setRow W2.heap.size #[.int .i64 y.k, .int .i64 y.id, .int .u64 (y.t : Int)])
      have hb3 : Below W2.heap.size W2 ((W2.alloc (.cells #[.int .i64 0, .int .i64 0, .int .u64 0] 54)).setRow W2.heap.size #[.int .i64 y.k, .int .i64 y.id, .int .u64 (y.t : Int)]) := below_row ((Below.refl _ _).alloc (Nat.le_refl _) _) (Nat.le_refl _) _
      have hx3 := setRow_heap #[.int .i64 y.k, .int .i64 y.id, .int .u64 (y.t : Int)] (heap_alloc_new W2 (.cells #[.int .i64 0, .int .i64 0, .int .u64 0] 54))
      generalize (W2.alloc (.cells #[.int .i64 0, .int .i64 0, .int .u64 0] 54)).setRow W2.heap.size #[.int .i64 y.k, .int .i64 y.id, .int .u64 (y.t : Int)] = W3 at hb3 hx3 ⊢
      obtain ⟨b8, hb8⟩ : ∃ b8, b8 = W2.heap.size := ⟨_, rfl⟩
      rw [← hb8] at hx3 ⊢
      have HB8 := Lib.hid hb8
      have rr3 := hrr2.out _ hb3
      have KW3 := Lib.hid (KW.out _ hb3)
      have HX3 := Lib.hid hx3
      have HB3 := Lib.hid hb3
      clear c1 c3 hx3 hb3 hb8 KW hrr2
      (try simp only [Act.put])
      go_upto_region 6 with (first
        | (refine wpList_load_mid rfl 63 _ rfl r 0 rfl [.int .u64 (now : Int), .slice (some ⟨b1, o1, none⟩) M.length cv] _ rr3 Try.underlying63 rfl dRow ?_)
        | (go_at_call 68; refine KW3.out.mono ?_; rintro e W4 ⟨v4, rfl, hb4, ho4⟩; obtain ⟨a4, c4, rfl⟩ := ho4.form; have HO4 := Lib.hid ho4; have hb34 := bthen' HB3.out hb4; have HC4 := Lib.hid (HC2.out.below hb34); have k1 := HC4.out.get (i := 1) rfl; have k1f := HC4.out.free (i := 1) rfl; have HX4 := Lib.hid ((hb4.block b8 (Array.getElem?_eq_some_iff.1 HX3.out).1).trans HX3.out); clear ho4 rr3))
      (try simp only [Act.put])
      obtain ⟨W5, hW5⟩ : ∃ W5, W5 = W4.setCell ⟨r, 1, none⟩ (.slice a4 (M.eraseIdx n).length c4) := ⟨_, rfl⟩
      rw [← hW5]
      have hg5 := RW.setList H1.out (bthen' HB12.out hb34) (HO4.out.mono (by have := (bthen' HB12.out HB3.out).size; omega))
      rw [← hW5] at hg5
      have hrlt := H.out.lt r h2
      have hb2s := HB2.out.size
      have hb8r : b8 ≠ r := by have := HB8.out; omega
      have hx5 : W5.heap[b8]? = some (.cells #[.int .i64 y.k, .int .i64 y.id, .int .u64 (y.t : Int)] 54 (0, 0)) := by
        rw [hW5]; exact ((Upd.refl [r] W4).setCell (by simp) _).heap (by simpa using hb8r) HX4.out
      have HG5 := Lib.hid hg5
      have HX5 := Lib.hid hx5
      have k5 := hg5.2.mem.elim fun v hv => hv.1.get (i := 0) rfl
      have kb : W5.cell? ⟨b8, 2, none⟩ = some (.int .u64 (y.t : Int)) := cell_of_row W5 _ _ _ _ _ hx5
      have d0 := fun (z : Later W5) => z.cell k5
      have d1 := fun (z : Later W5) => z.cell kb
      have HN4 := Lib.hid ((hb34.block q (Array.getElem?_eq_some_iff.1 HN2.out).1).trans HN2.out)
      have hqr : q ≠ r := by have := HQ.out; omega
      have HN5 := Lib.hid (show W5.heap[q]? = some (.cells #[.int .i64 0, .int .i64 0, .int .u64 0] 54 (0, 0)) from by rw [hW5]; exact ((Upd.refl [r] W4).setCell (by simp) _).heap (by simpa using hqr) HN4.out)
      clear hg5 hx5 k1 k1f hb34 hW5 kb k5 hb4
      refine wp_region_later_tail 8 (by kernel_rfl) (by kernel_rfl) (Below.refl _ _) ?_
      simp only [List.take_succ_cons, List.take_zero, List.drop_succ_cons, List.drop_zero]
      repeat (first
        | go_big_quiet_skip
        | (go_big_quiet_want; (go_big_quiet_op; go_big_quiet_on)))
      refine wpQuiet_nil ?_
      rintro ⟨W6, hb6⟩
      dsimp only
      clear d0 d1
      have hHC6 := HG5.out.2.mem
      obtain ⟨v6, hc6, hgr6, ho6, hb7⟩ := hHC6
      have k6 := (hc6.below hb6).get (i := 0) rfl
      have k6f := (hc6.below hb6).free (i := 0) rfl
      have HX6 := Lib.hid ((hb6.block b8 (Array.getElem?_eq_some_iff.1 HX5.out).1).trans HX5.out)
      have HSN := Lib.hid (RW.setNow (now2 := max now y.t) HG5.out.2 hb6)
      have hmx : (((max now y.t : Nat)) : Int) = max (now : Int) (y.t : Int) := by omega
      rw [hmx] at HSN
      have HB6 := Lib.hid hb6
      have HN6 := Lib.hid ((hb6.block q (Array.getElem?_eq_some_iff.1 HN5.out).1).trans HN5.out)
      clear hc6 hgr6 ho6 hb7 hb6 hmx
      go_upto_region 7 with fail
      obtain ⟨W7, hW7⟩ : ∃ W7, W7 = W6.setCell ⟨r, 0, none⟩ (.int .u64 (max (now : Int) (y.t : Int))) := ⟨_, rfl⟩
      have HS7 := Lib.hid HSN.out
      have HX7 := Lib.hid (show W7.heap[b8]? = some (.cells #[.int .i64 y.k, .int .i64 y.id, .int .u64 (y.t : Int)] 54 (0, 0)) from by rw [hW7]; exact ((Upd.refl [r] W6).setCell (by simp) _).heap (by simpa using hb8r) HX6.out)
      have HN7 := Lib.hid (show W7.heap[q]? = some (.cells #[.int .i64 0, .int .i64 0, .int .u64 0] 54 (0, 0)) from by rw [hW7]; exact ((Upd.refl [r] W6).setCell (by simp) _).heap (by simpa using hqr) HN6.out)
      rw [← hW7] at HS7 ⊢
      clear hW7 HSN HN6 HX6 k6 k6f
      go_wp2_with (first
        | (refine wpList_load_mid rfl 54 _ rfl b8 0 rfl (timR.cells y) _ (row_reads (R := timR) y HX7.out) Try.underlying54 rfl (timOk.row y) ?_)
        | (refine wpList_store_row rfl 54 _ _ rfl q #[.int .i64 y.k, .int .i64 y.id, .int .u64 (y.t : Int)] rfl rfl 54 #[.int .i64 0, .int .i64 0, .int .u64 0] HN7.out (timRow3 _ rfl) rfl (timOne3 _ _ _) ?_))
      refine bodyPost_ret (results_row_tmp rfl _ _ q [.int .i64 y.k, .int .i64 y.id, .int .u64 (y.t : Int)] _ rfl (row_reads (R := timR) y (setRow_heap _ HN7.out)) Try.underlying54 rfl (timRow3 _ rfl)) rfl ?_
      obtain ⟨u7, g7⟩ := RW.two HG5.out.1 HS7.out.1 HS7.out.2 H1.out.lt
      obtain ⟨u8, g8⟩ := RW.rowed HB1.out u7 g7 H.out.lt #[.int .i64 y.k, .int .i64 y.id, .int .u64 (y.t : Int)] (by have := HQ.out; omega) hq1
      exact .inr ⟨n, y, HY.out, HMIN.out, by have := HTO.out; omega, rfl, u8, g8⟩
end Go.Proofs.Ytkbjlpdmmbldpaa

/-! A due's keys in a wheel, and the document's timers: they are the same. -/
set_option linter.unusedVariables false
set_option linter.unusedSimpArgs false
set_option maxRecDepth 100000
namespace Go.Proofs.Ytkbjlpdmmbldpaa
open Go.RowKit

def keyT (x : Tm) : Tm := ⟨0, keyI x.k x.id, x.t⟩
theorem said_key {x : Tm} (h : mayB x.k x.id = true) : saidT (keyT x) = x := by
  have := unkey_key h
  unfold unkey at this
  simp only [Prod.mk.injEq] at this
  cases x
  simp only [saidT, keyT, Tm.mk.injEq, and_true] at this ⊢
  exact this
theorem inj_pair {M : List Tm} (h : (M.map fun x => (x.k, x.id)).Nodup) {x y : Tm} (hx : x ∈ M) (hy : y ∈ M) (e : (x.k, x.id) = (y.k, y.id)) : x = y := by
  obtain ⟨i, hi, rfl⟩ := List.mem_iff_getElem.1 hx
  obtain ⟨j, hj, rfl⟩ := List.mem_iff_getElem.1 hy
  have hp := List.pairwise_iff_getElem.1 (List.pairwise_map.1 h)
  rcases Nat.lt_trichotomy i j with h9 | rfl | h9
  · exact absurd e (hp i j hi hj h9)
  · rfl
  · exact absurd e.symm (hp j i hj hi h9)
/-- A wheel's list is the document's, by keys, in whatever order. -/
structure SameD (L M : List Tm) : Prop where
  perm : L.Perm (M.map keyT)
  may : ∀ x ∈ M, mayB x.k x.id = true
  nod : (M.map fun x => (x.k, x.id)).Nodup
theorem SameD.nil : SameD [] [] := ⟨by simp, by simp, by simp⟩
theorem isT_iff {k i : Int} {x : Tm} : isT k i x = true ↔ x.k = k ∧ x.id = i := by unfold isT; rw [decide_eq_true_iff]
theorem key_eq {x : Tm} {k i : Int} (hx : mayB x.k x.id = true) (hm : mayB k i = true) : keyI x.k x.id = keyI k i ↔ isT k i x = true := by
  rw [isT_iff]
  exact ⟨fun e => key_inj hx hm e, fun ⟨a, b⟩ => by rw [a, b]⟩
namespace SameD
variable {L M : List Tm}
theorem len (h : SameD L M) : L.length = M.length := by rw [h.perm.length_eq, List.length_map]
theorem mem (h : SameD L M) (x : Tm) : x ∈ L ↔ ∃ y ∈ M, keyT y = x := by rw [h.perm.mem_iff, List.mem_map]
theorem got (h : SameD L M) {k i : Int} (hm : mayB k i = true) : ((gotT L (keyI k i)).isSome = decide (0 ≤ plcT M k i)) ∧ ((gotT L (keyI k i) = none ∧ plcT M k i = -1) ∨ ∃ (n : Nat) (y : Tm), plcT M k i = (n : Int) ∧ M[n]? = some y ∧ tOf L (keyI k i) = y.t) := by
  rcases plc_val (M := M) (k := k) (i := i) with ⟨hp, hno⟩ | ⟨n, y, hp, hy, hi⟩
  · have hn : gotT L (keyI k i) = none := gotT_none.2 fun x hx e => by
      obtain ⟨y, hy, rfl⟩ := (h.mem x).1 hx
      have := (key_eq (h.may y hy) hm).1 e
      rw [hno y hy] at this
      cases this
    exact ⟨by rw [hn, hp]; rfl, .inl ⟨hn, hp⟩⟩
  · have hyM := List.mem_of_getElem? hy
    cases hg : gotT L (keyI k i) with
    | none =>
      exact absurd ((key_eq (h.may y hyM) hm).2 hi) (gotT_none.1 hg (keyT y) ((h.mem _).2 ⟨y, hyM, rfl⟩))
    | some x =>
      obtain ⟨hx, he⟩ := gotT_mem hg
      obtain ⟨z, hz, rfl⟩ := (h.mem x).1 hx
      have hzi := (key_eq (h.may z hz) hm).1 he
      have hzy : z = y := by
        have a := isT_iff.1 hzi
        have b := isT_iff.1 hi
        exact inj_pair h.nod hz hyM (by rw [a.1, a.2, b.1, b.2])
      subst hzy
      refine ⟨by rw [hp]; simp, .inr ⟨n, z, hp, hy, ?_⟩⟩
      unfold tOf
      rw [hg]
      rfl
theorem none_of (h : SameD L M) {k i : Int} (hm : mayB k i = false) : plcT M k i = -1 := plc_no fun y hy => by
  cases hi : isT k i y with
  | false => rfl
  | true =>
    obtain ⟨rfl, rfl⟩ := isT_iff.1 hi
    rw [h.may y hy] at hm
    cases hm
theorem clr_filter (h : (M.map fun x => (x.k, x.id)).Nodup) (k i : Int) : clrT M k i = M.filter fun y => !isT k i y := by
  unfold clrT woT
  rcases plc_val (M := M) (k := k) (i := i) with ⟨hp, hno⟩ | ⟨n, y, hp, hy, hi⟩
  · rw [hp, if_pos (by decide), List.filter_eq_self.2 (fun x hx => by simp [hno x hx])]
  · rw [hp, if_neg (by omega)]
    obtain ⟨hn, he⟩ := List.getElem?_eq_some_iff.1 hy
    have hsp : M = M.take n ++ y :: M.drop (n + 1) := by rw [← he, List.getElem_cons_drop, List.take_append_drop]
    have hot : ∀ z, z ∈ M.take n ∨ z ∈ M.drop (n + 1) → isT k i z = false := by
      intro z hz
      cases hzi : isT k i z with
      | false => rfl
      | true =>
        exfalso
        have a := isT_iff.1 hzi
        have b := isT_iff.1 hi
        rw [hsp, List.map_append, List.map_cons, List.nodup_append] at h
        obtain ⟨-, h2, h3⟩ := h
        rcases hz with hz | hz
        · exact h3 _ (List.mem_map_of_mem hz) _ List.mem_cons_self (by rw [a.1, a.2, b.1, b.2])
        · refine (List.nodup_cons.1 h2).1 ?_
          rw [b.1, b.2, ← a.1, ← a.2]
          exact List.mem_map_of_mem (f := fun x : Tm => (x.k, x.id)) hz
    show M.eraseIdx n = _
    rw [List.eraseIdx_eq_take_drop_succ]
    conv => rhs; rw [hsp]
    rw [List.filter_append, List.filter_cons, hi]
    simp only [Bool.not_true, Bool.false_eq_true, if_false]
    rw [List.filter_eq_self.2 (fun x hx => by simp [hot x (.inl hx)]), List.filter_eq_self.2 (fun x hx => by simp [hot x (.inr hx)])]
theorem clr (h : SameD L M) {k i : Int} (hm : mayB k i = true) : SameD (butT L (keyI k i)) (clrT M k i) := by
  have e := clr_filter h.nod k i
  rw [e]
  refine ⟨?_, fun x hx => h.may x (List.mem_filter.1 hx).1, h.nod.sublist (List.filter_sublist.map _)⟩
  have h1 := h.perm.filter (fun x => decide (x.id ≠ keyI k i))
  rw [List.filter_map] at h1
  have h2 : M.filter ((fun x : Tm => decide (x.id ≠ keyI k i)) ∘ keyT) = M.filter fun y => !isT k i y := List.filter_congr fun x hx => by
    have := key_eq (h.may x hx) hm
    show decide (keyI x.k x.id ≠ keyI k i) = !isT k i x
    cases hi : isT k i x with
    | true => rw [hi] at this; simp [this.2 rfl]
    | false => rw [hi] at this; simp; intro e; cases this.1 e
  rw [h2] at h1
  exact h1
theorem set (h : SameD L M) {k i : Int} (hm : mayB k i = true) (t : Nat) : SameD (setT L (keyI k i) t) (clrT M k i ++ [⟨k, i, t⟩]) := by
  have h1 := h.clr hm
  refine ⟨?_, fun x hx => ?_, ?_⟩
  · unfold setT
    rw [List.map_append]
    exact h1.perm.append_right _
  · rcases List.mem_append.1 hx with hx | hx
    · exact h1.may x hx
    · simp at hx; subst hx; exact hm
  · rw [List.map_append, List.nodup_append]
    refine ⟨h1.nod, by simp, fun a ha b hb => ?_⟩
    simp at hb
    subst hb
    rw [clr_filter h.nod] at ha
    obtain ⟨z, hz, rfl⟩ := List.mem_map.1 ha
    have := (List.mem_filter.1 hz).2
    intro e
    simp only [Prod.mk.injEq] at e
    rw [isT_iff.2 e] at this
    cases this
theorem nil_iff (h : SameD L M) : L = [] ↔ M = [] := by rw [← List.length_eq_zero_iff, ← List.length_eq_zero_iff, h.len]
theorem nextP (h : SameD L M) {w w' : World} {e : Ending} (hp : NextP w M e w') : NextP w L e w' := by
  obtain ⟨hb, ⟨h1, h2⟩ | ⟨m, ⟨x, hx, hm⟩, h3, h4⟩⟩ := hp
  · exact ⟨hb, .inl ⟨h.nil_iff.2 h1, h2⟩⟩
  · refine ⟨hb, .inr ⟨m, ⟨keyT x, (h.mem _).2 ⟨x, hx, rfl⟩, hm⟩, fun y hy => ?_, h4⟩⟩
    obtain ⟨z, hz, rfl⟩ := (h.mem y).1 hy
    exact h3 z hz
theorem next (h : SameD L M) {m : Nat} {b : Bool} (hn : NextIs L m b) : NextIs M m b := by
  refine ⟨fun w e w' hp => hn.q w e w' (h.nextP hp), fun hb => h.nil_iff.1 (hn.no hb), fun hb => ?_⟩
  obtain ⟨⟨x, hx, hm⟩, h2⟩ := hn.yes hb
  obtain ⟨y, hy, rfl⟩ := (h.mem x).1 hx
  exact ⟨⟨y, hy, hm⟩, fun z hz => h2 (keyT z) ((h.mem _).2 ⟨z, hz, rfl⟩)⟩
theorem key_lt {x y : Tm} (hx : mayB x.k x.id = true) (hy : mayB y.k y.id = true) (h : x.k < y.k ∨ (x.k = y.k ∧ x.id < y.id)) : keyI x.k x.id < keyI y.k y.id := by
  have a := of_decide_eq_true hx
  have b := of_decide_eq_true hy
  unfold keyI
  omega
theorem turn_perm {m : Nat} {out : List Tm} (hn : L.Nodup) (h : TurnOk L m out) : L.Perm (restT L m ++ out) := by
  have ho : out.Nodup := h.srt.imp (fun {x y} h9 e => by subst e; unfold ltT at h9; omega)
  have h1 : out.Perm (L.filter fun x => !decide (m < x.t)) := (List.perm_ext_iff_of_nodup ho (hn.sublist List.filter_sublist)).2 fun x => by
    rw [h.mem, List.mem_filter]
    simp
  refine List.Perm.trans ?_ (h1.symm.append_left _)
  exact (List.filter_append_perm (fun x : Tm => decide (m < x.t)) L).symm
/-- What comes first. -/
theorem first (h : SameD L M) (hnd : (idsT L).Nodup) {m n : Nat} {out : List Tm} {x y : Tm} (ht : TurnOk L m out) (hx : out[0]? = some x) (hy : M[n]? = some y) (hmin : ∀ z ∈ M, befT z y = false) :
    saidT x = y ∧ SameD (restT L m ++ out.drop 1) (M.eraseIdx n) := by
  have hyM := List.mem_of_getElem? hy
  have hxo := List.mem_of_getElem? hx
  obtain ⟨hxL, hxm⟩ := (ht.mem x).1 hxo
  obtain ⟨y', hy', rfl⟩ := (h.mem x).1 hxL
  have hxmin : ∀ z ∈ L, ¬ ltT z (keyT y') := by
    intro z hz hlt
    by_cases hzm : z.t ≤ m
    · have hzo := (ht.mem z).2 ⟨hz, hzm⟩
      obtain ⟨j, hj, he⟩ := List.mem_iff_getElem.1 hzo
      obtain ⟨h0, hx0⟩ := List.getElem?_eq_some_iff.1 hx
      rcases Nat.eq_zero_or_pos j with rfl | hp
      · rw [he] at hx0
        subst hx0
        unfold ltT at hlt; omega
      · have := (List.pairwise_iff_getElem.1 ht.srt) 0 j h0 hj hp
        rw [hx0, he] at this
        unfold ltT at this hlt
        omega
    · have : (keyT y').t ≤ m := hxm
      unfold ltT at hlt
      omega
  have hyy : y' = y := by
    have a1 := (bef_no _ _).1 (hmin y' hy')
    have a2 := hxmin (keyT y) ((h.mem _).2 ⟨y, hyM, rfl⟩)
    have m1 := h.may y' hy'
    have m2 := h.may y hyM
    have a3 : ¬ (y.t < y'.t ∨ (y.t = y'.t ∧ keyI y.k y.id < keyI y'.k y'.id)) := a2
    have hk : y'.k = y.k ∧ y'.id = y.id := by
      refine key_inj m1 m2 ?_
      have l1 := @key_lt y y' m2 m1
      have l2 := @key_lt y' y m1 m2
      rcases Int.lt_trichotomy (keyI y'.k y'.id) (keyI y.k y.id) with h9 | h9 | h9
      · exfalso
        have b1 := of_decide_eq_true m1
        have b2 := of_decide_eq_true m2
        unfold keyI at *
        omega
      · exact h9
      · exfalso
        have b1 := of_decide_eq_true m1
        have b2 := of_decide_eq_true m2
        unfold keyI at *
        omega
    exact inj_pair h.nod hy' hyM (by rw [hk.1, hk.2])
  subst hyy
  refine ⟨said_key (h.may _ hyM), ?_, fun z hz => h.may z (List.mem_of_mem_eraseIdx hz), h.nod.sublist ((List.eraseIdx_sublist _ _).map _)⟩
  obtain ⟨hn, he⟩ := List.getElem?_eq_some_iff.1 hy
  have hLn : L.Nodup := (List.pairwise_map.1 hnd).imp (fun h9 e => h9 (by rw [e]))
  have p1 := turn_perm hLn ht
  have hout : out = keyT y' :: out.drop 1 := by
    cases out with
    | nil => cases hx
    | cons a l => simp at hx; subst hx; rfl
  have p2 : (restT L m ++ out).Perm (keyT y' :: (restT L m ++ out.drop 1)) := by
    conv => lhs; rw [hout]
    exact List.perm_middle
  have p3 : (M.map keyT).Perm (keyT y' :: (M.eraseIdx n).map keyT) := by
    have h9 : M.Perm (y' :: M.eraseIdx n) := by
      have hsp : M = M.take n ++ y' :: M.drop (n + 1) := by rw [← he, List.getElem_cons_drop, List.take_append_drop]
      rw [List.eraseIdx_eq_take_drop_succ]
      conv => lhs; rw [hsp]
      exact List.perm_middle
    exact h9.map keyT
  exact List.Perm.cons_inv ((p2.symm.trans p1.symm).trans (h.perm.trans p3))
theorem rest {to2 : Nat} (h : ∀ x ∈ L, to2 < x.t) : restT L to2 = L := by
  unfold restT
  exact List.filter_eq_self.2 fun x hx => decide_eq_true (h x hx)
end SameD
end Go.Proofs.Ytkbjlpdmmbldpaa

/-! A due's functions, told by the document's list. -/
set_option linter.unusedVariables false
set_option linter.unusedSimpArgs false
set_option maxRecDepth 100000
namespace Go.Proofs.Ytkbjlpdmmbldpaa
open Go.RowKit

theorem dset_no (w : World) (d : Nat) (k i : Int) (t : Nat) (hm : mayB k i = false) :
    Calls Try.prog 27 #[.pointer (some ⟨d, 0, none⟩), .int .i64 k, .int .i64 i, .int .u64 (t : Int)] w fun e w' => e = .returned (.int .i64 1) ∧ Below w.heap.size w w' := by
  have KM := Lib.hid (may_any w k i)
  rw [hm] at KM
  clear hm
  go_enter Try.func27, Try.ntmps27
  go_wp2_with (go_at_call 53; refine KM.out.mono ?_; rintro e w' ⟨rfl, rfl⟩)
  go_ret
  exact ⟨rfl, Below.refl _ _⟩
theorem dat_no (w : World) (d : Nat) (k i : Int) (hm : mayB k i = false) :
    Calls Try.prog 34 #[.pointer (some ⟨d, 0, none⟩), .int .i64 k, .int .i64 i] w fun e w' => e = .returned (.tuple #[.int .u64 0, .bool false]) ∧ Below w.heap.size w w' := by
  have KM := Lib.hid (may_any w k i)
  rw [hm] at KM
  clear hm
  go_enter Try.func34, Try.ntmps34
  go_wp2_with (go_at_call 53; refine KM.out.mono ?_; rintro e w' ⟨rfl, rfl⟩)
  go_ret2
  exact ⟨rfl, Below.refl _ _⟩
theorem dclear_no (w : World) (d : Nat) (k i : Int) (hm : mayB k i = false) :
    Calls Try.prog 39 #[.pointer (some ⟨d, 0, none⟩), .int .i64 k, .int .i64 i] w fun e w' => e = .returned (.bool false) ∧ Below w.heap.size w w' := by
  have KM := Lib.hid (fun W => may_any W k i)
  rw [hm] at KM
  clear hm
  go_enter Try.func39, Try.ntmps39
  go_upto_region 1 with fail
  refine Mix.wp_region_mix [([0, 1, 2, 3, 4], 5), ([6, 7, 8, 9, 10, 11, 12, 13], 14), ([], 15)] [16, 17] (fun w' => ∃ x : Later w, w' = x.w) (by kernel_rfl) (by kernel_rfl) (Mix.later_drew w) ?_
  have hb5 : Below w.heap.size w w.drew := (Below.refl _ _).drew
  generalize w.drew = W5 at hb5 ⊢
  refine Mix.stages_cons ?_
  simp only [Mix.pickL, List.getElem?_cons_zero, List.getElem?_cons_succ]
  repeat (first
    | go_big_quiet_skip
    | (go_big_quiet_want; (go_big_quiet_op; go_big_quiet_on)))
  refine wpQuiet_nil ?_
  go_wp2_with (go_at_call 53; refine (KM.out _).mono ?_; rintro e w' ⟨rfl, rfl⟩)
  refine Mix.onward_normal hb5 ?_
  refine Mix.stages_cons ?_
  simp only [Mix.pickL, List.getElem?_cons_zero, List.getElem?_cons_succ]
  repeat (first
    | go_big_quiet_skip
    | (go_big_quiet_want; (go_big_quiet_op; go_big_quiet_on)))
  refine wpQuiet_nil ?_
  go_wp2_with (fail)
  refine Mix.onward_normal (Below.refl W5.heap.size W5) ?_
  refine Mix.stages_cons ?_
  simp only [Mix.pickL, List.getElem?_cons_zero, List.getElem?_cons_succ]
  repeat (first
    | go_big_quiet_skip
    | (go_big_quiet_want; (go_big_quiet_op; go_big_quiet_on)))
  refine wpQuiet_nil ?_
  go_wp2_with (fail)
  refine Mix.onward_normal (Below.refl W5.heap.size W5) ?_
  refine Mix.stages_nil ?_
  simp only [Mix.pickL, List.getElem?_cons_zero, List.getElem?_cons_succ]
  repeat (first
    | go_big_quiet_skip
    | (go_big_quiet_want; (go_big_quiet_op; go_big_quiet_on)))
  refine wpQuiet_nil ?_
  go_wp2_with fail
  go_ret
  exact ⟨rfl, hb5⟩

/-- A due in memory that has the document's list. -/
def DueT (T : Nat → Prop) (w : World) (d now : Nat) (M : List Tm) : Prop := ∃ L, DT T w d now L ∧ SameD L M
namespace DueT
variable {T P : Nat → Prop} {w w' : World} {d now : Nat} {M : List Tm}
theorem lt (h : DueT T w d now M) : ∀ k, T k → k < w.heap.size := h.elim fun _ h => h.1.lt
theorem tT (h : DueT T w d now M) : T d := h.elim fun _ h => h.1.mem.elim fun _ h9 => h9.elim fun _ h9 => h9.2.1
theorem updP (h : DueT T w d now M) (hu : UpdP P w w') (hP : ∀ k, P k → ¬ T k) : DueT T w' d now M := h.elim fun L h => ⟨L, h.1.updP hu hP, h.2⟩
theorem below (h : DueT T w d now M) (hb : Below w.heap.size w w') : DueT T w' d now M := h.elim fun L h => ⟨L, h.1.below hb, h.2⟩
theorem same (h : DueT T w d now M) (hb : Below w.heap.size w w') : UpdP T w w' ∧ DueT (Gr T w w') w' d now M := by
  obtain ⟨L, h1, h2⟩ := h
  refine ⟨UpdP.ofB hb, L, (h1.below hb).wider (fun k hk => .inl hk) (fun k hk => ?_), h2⟩
  have := hb.size
  rcases hk with hk | hk
  · have := h1.lt k hk; omega
  · exact hk.2
theorem may (h : DueT T w d now M) : ∀ x ∈ M, mayB x.k x.id = true := h.elim fun _ h => h.2.may
theorem nod (h : DueT T w d now M) : (M.map fun x => (x.k, x.id)).Nodup := h.elim fun _ h => h.2.nod
theorem ts (h : DueT T w d now M) : ∀ x ∈ M, x.t < 18446744073709551616 := by
  obtain ⟨L, h1, h2⟩ := h
  intro x hx
  obtain ⟨p, T', -, -, -, -, h5⟩ := h1.mem
  exact h5.ts (keyT x) ((h2.mem _).2 ⟨x, hx, rfl⟩)
end DueT
def mSetP (T : Nat → Prop) (w : World) (d now : Nat) (M : List Tm) (k i : Int) (t : Nat) (e : Ending) (w' : World) : Prop :=
  e = .returned (.int .i64 (if mayB k i = true then 0 else 1)) ∧ UpdP T w w' ∧ DueT (Gr T w w') w' d now (dsetT M k i t)
theorem mset {T : Nat → Prop} {w : World} {d now : Nat} {M : List Tm} (h : DueT T w d now M) (k i : Int) (t : Nat) (ht : t < 18446744073709551616) (hM : M.length ≤ 20000) :
    Calls Try.prog 27 #[.pointer (some ⟨d, 0, none⟩), .int .i64 k, .int .i64 i, .int .u64 (t : Int)] w (mSetP T w d now M k i t) := by
  cases hm : mayB k i with
  | false =>
    refine (dset_no w d k i t hm).mono ?_
    rintro e w' ⟨rfl, hb⟩
    obtain ⟨g1, g2⟩ := h.same hb
    exact ⟨by rw [hm]; rfl, g1, by unfold dsetT; rw [hm]; exact g2⟩
  | true =>
    obtain ⟨L, h1, h2⟩ := h
    have hl := h2.len
    refine (dset_any h1 k i t hm ht (by omega)).mono ?_
    rintro e w' ⟨rfl, hu, hd⟩
    exact ⟨by rw [hm]; rfl, hu, by unfold dsetT; rw [hm, if_pos rfl]; exact ⟨_, hd, h2.set hm t⟩⟩
def mClearP (T : Nat → Prop) (w : World) (d now : Nat) (M : List Tm) (k i : Int) (e : Ending) (w' : World) : Prop :=
  e = .returned (.bool (decide (0 ≤ plcT M k i))) ∧ UpdP T w w' ∧ DueT (Gr T w w') w' d now (clrT M k i)
theorem mclear {T : Nat → Prop} {w : World} {d now : Nat} {M : List Tm} (h : DueT T w d now M) (k i : Int) (hM : M.length ≤ 20000) :
    Calls Try.prog 39 #[.pointer (some ⟨d, 0, none⟩), .int .i64 k, .int .i64 i] w (mClearP T w d now M k i) := by
  cases hm : mayB k i with
  | false =>
    have hp : plcT M k i = -1 := h.elim fun _ h => h.2.none_of hm
    refine (dclear_no w d k i hm).mono ?_
    rintro e w' ⟨rfl, hb⟩
    obtain ⟨g1, g2⟩ := h.same hb
    exact ⟨by rw [hp]; rfl, g1, by unfold clrT; rw [hp, if_pos (by decide)]; exact g2⟩
  | true =>
    obtain ⟨L, h1, h2⟩ := h
    have hl := h2.len
    refine (dclear_any h1 k i hm (by omega)).mono ?_
    rintro e w' ⟨rfl, hu, hd⟩
    exact ⟨by rw [(h2.got hm).1], hu, ⟨_, hd, h2.clr hm⟩⟩
/-- When a timer is due; 0 of none. -/
def atT (M : List Tm) (k i : Int) : Nat := match M[(plcT M k i).toNat]? with | some y => if plcT M k i < 0 then 0 else y.t | none => 0
theorem at_none {M : List Tm} {k i : Int} (h : plcT M k i = -1) : atT M k i = 0 := by unfold atT; rw [h]; split <;> rfl
theorem at_some {M : List Tm} {k i : Int} {n : Nat} {y : Tm} (h : plcT M k i = (n : Int)) (hy : M[n]? = some y) : atT M k i = y.t := by
  unfold atT
  rw [h, Int.toNat_natCast, hy]
  simp only
  rw [if_neg (by omega)]
def mAtP (w : World) (M : List Tm) (k i : Int) (e : Ending) (w' : World) : Prop := e = .returned (.tuple #[.int .u64 (atT M k i : Int), .bool (decide (0 ≤ plcT M k i))]) ∧ Below w.heap.size w w'
theorem mat {T : Nat → Prop} {w : World} {d now : Nat} {M : List Tm} (h : DueT T w d now M) (k i : Int) :
    Calls Try.prog 34 #[.pointer (some ⟨d, 0, none⟩), .int .i64 k, .int .i64 i] w (mAtP w M k i) := by
  cases hm : mayB k i with
  | false =>
    have hp : plcT M k i = -1 := h.elim fun _ h => h.2.none_of hm
    refine (dat_no w d k i hm).mono ?_
    rintro e w' ⟨rfl, hb⟩
    exact ⟨by rw [at_none hp, hp]; rfl, hb⟩
  | true =>
    obtain ⟨L, h1, h2⟩ := h
    refine (dat_any h1 k i hm).mono ?_
    rintro e w' ⟨rfl, hb⟩
    obtain ⟨g1, g2⟩ := h2.got hm
    refine ⟨?_, hb⟩
    rw [← g1]
    rcases g2 with ⟨g2, g3⟩ | ⟨n, y, g2, g3, g4⟩
    · rw [at_none g3]
      unfold tOf
      rw [g2]
    · rw [at_some g2 g3, g4]
theorem mnext {T : Nat → Prop} {w : World} {d now : Nat} {M : List Tm} (h : DueT T w d now M) (hM : M.length ≤ 20000) (m : Nat) (b : Bool) (hn : NextIs M m b) :
    Calls Try.prog 30 #[.pointer (some ⟨d, 0, none⟩)] w (NextQ w m b) := by
  obtain ⟨L, h1, h2⟩ := h
  have hl := h2.len
  obtain ⟨m2, b2, hn2⟩ := next_is L
  refine dnext_any h1 (by omega) m b (fun w e w' hp => ?_)
  have hn3 := h2.next hn2
  obtain ⟨hb, ⟨h3, h4⟩ | ⟨m3, ⟨x, hx, hm⟩, h5, h6⟩⟩ := hp
  · exact hn.q w e w' ⟨hb, .inl ⟨h2.nil_iff.1 h3, h4⟩⟩
  · obtain ⟨y, hy, rfl⟩ := (h2.mem x).1 hx
    exact hn.q w e w' ⟨hb, .inr ⟨m3, ⟨y, hy, hm⟩, fun z hz => h5 (keyT z) ((h2.mem _).2 ⟨z, hz, rfl⟩), h6⟩⟩
theorem mlen {T : Nat → Prop} {w : World} {d now : Nat} {M : List Tm} (h : DueT T w d now M) (hM : M.length ≤ 20000) :
    Calls Try.prog 28 #[.pointer (some ⟨d, 0, none⟩)] w fun e w' => e = .returned (.int .i64 (M.length : Int)) ∧ w = w' := by
  obtain ⟨L, h1, h2⟩ := h
  have hl := h2.len
  rw [← hl]
  exact dlen_any h1 (by omega)
theorem mnow {T : Nat → Prop} {w : World} {d now : Nat} {M : List Tm} (h : DueT T w d now M) :
    Calls Try.prog 37 #[.pointer (some ⟨d, 0, none⟩)] w fun e w' => e = .returned (.int .u64 (now : Int)) ∧ w = w' := by
  obtain ⟨L, h1, h2⟩ := h
  exact dnow_any h1
def mGoP (T : Nat → Prop) (w : World) (d now : Nat) (M : List Tm) (to2 m : Nat) (b : Bool) (e : Ending) (w' : World) : Prop :=
  ((b = true ∧ m ≤ to2) ∧ e = .returned (.bool false) ∧ UpdP T w w' ∧ DueT (Gr T w w') w' d now M) ∨ (¬ (b = true ∧ m ≤ to2) ∧ e = .returned (.bool true) ∧ UpdP T w w' ∧ DueT (Gr T w w') w' d (max now to2) M)
theorem same_next {L M : List Tm} (h2 : SameD L M) {m : Nat} {b : Bool} (hn : NextIs M m b) : NextIs L m b := by
  refine ⟨fun w e w' hp => ?_, fun hb => h2.nil_iff.2 (hn.no hb), fun hb => ?_⟩
  · obtain ⟨hb, ⟨h3, h4⟩ | ⟨m3, ⟨x, hx, hm⟩, h5, h6⟩⟩ := hp
    · exact hn.q w e w' ⟨hb, .inl ⟨h2.nil_iff.1 h3, h4⟩⟩
    · obtain ⟨y, hy, rfl⟩ := (h2.mem x).1 hx
      exact hn.q w e w' ⟨hb, .inr ⟨m3, ⟨y, hy, hm⟩, fun z hz => h5 (keyT z) ((h2.mem _).2 ⟨z, hz, rfl⟩), h6⟩⟩
  · obtain ⟨⟨x, hx, hm⟩, h3⟩ := hn.yes hb
    refine ⟨⟨keyT x, (h2.mem _).2 ⟨x, hx, rfl⟩, hm⟩, fun y hy => ?_⟩
    obtain ⟨z, hz, rfl⟩ := (h2.mem y).1 hy
    exact h3 z hz
theorem mgo {T : Nat → Prop} {w : World} {d now : Nat} {M : List Tm} (h : DueT T w d now M) (to2 : Nat) (hto : to2 < 18446744073709551616) (hM : M.length ≤ 20000) (m : Nat) (b : Bool) (hn : NextIs M m b) :
    Calls Try.prog 31 #[.pointer (some ⟨d, 0, none⟩), .int .u64 (to2 : Int)] w (mGoP T w d now M to2 m b) := by
  have H := h
  obtain ⟨L, h1, h2⟩ := h
  have hl := h2.len
  have hn2 := same_next h2 hn
  refine (dgo_any h1 to2 hto (by omega) m b hn2).mono ?_
  rintro e w' (⟨c, rfl, hb⟩ | ⟨c, rfl, hu, hd⟩)
  · exact .inl ⟨c, rfl, H.same hb⟩
  · refine .inr ⟨c, rfl, hu, L, ?_, h2⟩
    have hr : restT L to2 = L := SameD.rest fun x hx => by
      cases b with
      | false => rw [hn2.no rfl] at hx; cases hx
      | true =>
        have := (hn2.yes rfl).2 x hx
        have : ¬ m ≤ to2 := fun h9 => c ⟨rfl, h9⟩
        omega
    rw [hr] at hd
    exact hd
def mFirstP (T : Nat → Prop) (w : World) (d now : Nat) (M : List Tm) (to2 : Nat) (e : Ending) (w' : World) : Prop :=
  (((M = [] ∨ ∃ y ∈ M, (∀ z ∈ M, befT z y = false) ∧ to2 < y.t) ∧ e = .returned (.tuple #[timR.val zeroTm, .bool false]) ∧ UpdP T w w' ∧ DueT (Gr T w w') w' d now M)) ∨
  ∃ (n : Nat) (y : Tm), M[n]? = some y ∧ (∀ z ∈ M, befT z y = false) ∧ y.t ≤ to2 ∧ e = .returned (.tuple #[timR.val y, .bool true]) ∧ UpdP T w w' ∧ DueT (Gr T w w') w' d (max now y.t) (M.eraseIdx n)
theorem least_ex : ∀ (M : List Tm), M ≠ [] → ∃ (n : Nat) (y : Tm), M[n]? = some y ∧ ∀ z ∈ M, befT z y = false
  | [], h => absurd rfl h
  | [a], _ => ⟨0, a, rfl, fun z hz => by simp at hz; subst hz; rw [bef_no]; omega⟩
  | a :: b :: l, _ => by
    obtain ⟨n, y, hy, hm⟩ := least_ex (b :: l) (by simp)
    cases hb : befT a y with
    | false => exact ⟨n + 1, y, by simpa using hy, fun z hz => by rcases List.mem_cons.1 hz with rfl | hz; exact hb; exact hm z hz⟩
    | true =>
      refine ⟨0, a, rfl, fun z hz => ?_⟩
      rw [bef_iff] at hb
      rw [bef_no]
      rcases List.mem_cons.1 hz with rfl | hz
      · omega
      · have := (bef_no _ _).1 (hm z hz)
        omega
theorem mfirst {T : Nat → Prop} {w : World} {d now : Nat} {M : List Tm} (h : DueT T w d now M) (to2 : Nat) (hto : to2 < 18446744073709551616) (hM : M.length ≤ 20000) :
    Calls Try.prog 29 #[.pointer (some ⟨d, 0, none⟩), .int .u64 (to2 : Int)] w (mFirstP T w d now M to2) := by
  have H := h
  obtain ⟨L, h1, h2⟩ := h
  have hl := h2.len
  obtain ⟨m, b, hn⟩ := next_is L
  have hn2 := h2.next hn
  refine (dfirst_any h1 to2 hto (by omega) m b hn).mono ?_
  rintro e w' (⟨c, rfl, hb⟩ | ⟨⟨rfl, c⟩, out, x, hok, hx, rfl, hu, hd⟩)
  · refine .inl ⟨?_, rfl, H.same hb⟩
    by_cases hM0 : M = []
    · exact .inl hM0
    · obtain ⟨n, y, hy, hmin⟩ := least_ex M hM0
      refine .inr ⟨y, List.mem_of_getElem? hy, hmin, ?_⟩
      cases b with
      | false => exact absurd (hn2.no rfl) hM0
      | true =>
        have : m ≤ y.t := (hn2.yes rfl).2 y (List.mem_of_getElem? hy)
        have : ¬ m ≤ to2 := fun h9 => c ⟨rfl, h9⟩
        omega
  · obtain ⟨⟨x0, hx0, -⟩, hmn⟩ := hn2.yes rfl
    obtain ⟨n, y, hy, hmin⟩ := least_ex M (by intro e; rw [e] at hx0; cases hx0)
    obtain ⟨p, T', -, -, -, -, h5⟩ := h1.mem
    obtain ⟨q1, q2⟩ := h2.first h5.nod hok hx hy hmin
    have hyt : y.t = m := by
      have a1 := hmn y (List.mem_of_getElem? hy)
      have a2 := ((hok.mem x).1 (List.mem_of_getElem? hx)).2
      have a3 : (saidT x).t = y.t := by rw [q1]
      have a4 : (saidT x).t = x.t := rfl
      omega
    exact .inr ⟨n, y, hy, hmin, by omega, by rw [q1], hu, by rw [hyt]; exact ⟨_, hd, q2⟩⟩
theorem least_one {M : List Tm} (hn : (M.map fun x => (x.k, x.id)).Nodup) {n n2 : Nat} {y y2 : Tm} (hy : M[n]? = some y) (h1 : ∀ z ∈ M, befT z y = false) (hy2 : M[n2]? = some y2) (h2 : ∀ z ∈ M, befT z y2 = false) : n = n2 ∧ y = y2 := by
  have a := (bef_no _ _).1 (h1 y2 (List.mem_of_getElem? hy2))
  have b := (bef_no _ _).1 (h2 y (List.mem_of_getElem? hy))
  have hp := List.pairwise_iff_getElem.1 (List.pairwise_map.1 hn)
  obtain ⟨l1, e1⟩ := List.getElem?_eq_some_iff.1 hy
  obtain ⟨l2, e2⟩ := List.getElem?_eq_some_iff.1 hy2
  have hkk : y.k = y2.k ∧ y.id = y2.id := by omega
  rcases Nat.lt_trichotomy n n2 with h9 | rfl | h9
  · exact absurd (by rw [e1, e2, hkk.1, hkk.2]) (hp n n2 l1 l2 h9)
  · rw [hy] at hy2
    exact ⟨rfl, Option.some.inj hy2⟩
  · exact absurd (by rw [e1, e2, hkk.1, hkk.2]) (hp n2 n l2 l1 h9)
theorem mnew (w : World) (now : Nat) (hnow : now < 18446744073709551616) : Calls Try.prog 26 #[.int .u64 (now : Int)] w fun e w' => ∃ d, e = .returned (.pointer (some ⟨d, 0, none⟩)) ∧ Below w.heap.size w w' ∧ DueT (fun k => w.heap.size ≤ k ∧ k < w'.heap.size) w' d now [] :=
  (dnew_any w now hnow).mono (by rintro e w' ⟨d, rfl, hb, hd⟩; exact ⟨d, rfl, hb, [], hd, SameD.nil⟩)
end Go.Proofs.Ytkbjlpdmmbldpaa

