/- The walk of the statement on what is loaded (printed by genoploads.py). -/
import Derived.Test.YtddmajgadaooaaaOpLoad
import Derived.Test.YtddmajgadaooaaaOpOpen2
set_option linter.unusedVariables false
set_option linter.unusedSimpArgs false
namespace Go.Proofs.Ytddmajgadaooaaa
open Go.RowKit

theorem Reads.readsN {N : Nat → Prop} {w W : World} {v : Value} {L : List OpV} (h : Reads opR w v L) (hb : Below w.heap.size w W) (hN : ∀ k, N k → w.heap.size ≤ k) : ReadsN N W v L := by
  rcases h with h | ⟨b, off, cap, h1, h2⟩
  · exact .inl h
  · cases L with
    | nil => exact .inl ⟨rfl, _, _, h1⟩
    | cons x L =>
      have hl := cell_lt (h2 0 x rfl)
      have := hb.size
      exact .inr ⟨b, off, cap, h1, fun h9 => by have := hN b h9; omega, by omega, fun i y hy => below_range hb (h2 i y hy)⟩
theorem both_loaded {w W1 : World} {t : Nat} {keep next : Int} {L D : List OpV} {T : Nat → Prop} {vl ve : Value} (hl : Reads opR w vl L) (hd : Reads opR w ve D) (hb1 : Below w.heap.size w W1) (hT : OT T W1 t keep next L D) (hTlo : ∀ k, T k → w.heap.size ≤ k) :
    Both w (W1.alloc (.cells #[.int .i64 keep, .int .i64 next, vl, ve] 46)) t W1.heap.size keep next L D := by
  have hb2 : Below W1.heap.size W1 (W1.alloc (.cells #[.int .i64 keep, .int .i64 next, vl, ve] 46)) := (Below.refl _ _).alloc (Nat.le_refl _) _
  have hlt := hT.lt
  have hs := hb1.size
  have hN : ∀ k, (T k ∨ k = W1.heap.size) → w.heap.size ≤ k := fun k hk => by rcases hk with hk | hk; exact hTlo k hk; omega
  exact ⟨bthen' hb1 hb2, hb1.size, by simp, T, hTlo, hT.below hb2, vl, ve, Cel.new W1 46 [.int .i64 keep, .int .i64 next, vl, ve], fun h => by have := hlt _ h; omega, by simp, Reads.readsN hl (bthen' hb1 hb2) hN, Reads.readsN hd (bthen' hb1 hb2) hN⟩

set_option maxRecDepth 100000 in
set_option maxHeartbeats 4000000 in
theorem opsLoads_any (w : World) (keep next : Int) (vl ve : Value) (L D : List OpV) (hl : Reads opR w vl L) (hd : Reads opR w ve D) :
    Calls Try.prog 6 #[.agg #[.int .i64 keep, .int .i64 next], vl, ve] w fun e w' => e = .returned (.bool true) ∧ Below w.heap.size w w' := by
  obtain ⟨av, cv, rfl⟩ := hl.form
  obtain ⟨ad, cd, rfl⟩ := hd.form
  have hb1 : Below w.heap.size w (w.alloc (.cells #[.int .i64 keep, .int .i64 next] 52)) := (Below.refl _ _).alloc (Nat.le_refl _) _
  have hn1 : (w.alloc (.cells #[.int .i64 keep, .int .i64 next] 52)).heap[w.heap.size]? = some (.cells #[.int .i64 keep, .int .i64 next] 52 (0, 0)) := heap_alloc_new _ _
  obtain ⟨W1, hW1⟩ : ∃ W1, W1 = w.alloc (.cells #[.int .i64 keep, .int .i64 next] 52) := ⟨_, rfl⟩
  rw [← hW1] at hb1 hn1
  have HQ0 := Lib.hid (show W1.cell? ⟨w.heap.size, 0, none⟩ = some (.int .i64 keep) from cell_of_row W1 _ 0 _ _ _ hn1)
  have HQ1 := Lib.hid (show W1.cell? ⟨w.heap.size, 1, none⟩ = some (.int .i64 next) from cell_of_row W1 _ 1 _ _ _ hn1)
  have HB1 := Lib.hid hb1
  have HL := Lib.hid (hl.below hb1)
  have HD := Lib.hid (hd.below hb1)
  have KV := Lib.hid (page_any W1)
  clear hl hd hn1
  by_cases h1 : 40 < L.length
  · go_enter Try.func6, Try.ntmps6
    go_upto_region 1 with fail
    show Code.wp _ _ _ _ (w.alloc (.cells #[.int .i64 keep, .int .i64 next] 52))
    rw [← hW1]
    clear hW1 hb1
    go_wp2_with (go_at_call 8; refine KV.out.mono ?_; rintro e W2 ⟨rfl, hb2⟩)
    go_ret
    exact ⟨rfl, bthen' HB1.out hb2⟩
  by_cases h2 : 40 < D.length
  · go_enter Try.func6, Try.ntmps6
    go_upto_region 1 with fail
    show Code.wp _ _ _ _ (w.alloc (.cells #[.int .i64 keep, .int .i64 next] 52))
    rw [← hW1]
    clear hW1 hb1
    go_wp2_with (go_at_call 8; refine KV.out.mono ?_; rintro e W2 ⟨rfl, hb2⟩)
    go_ret
    exact ⟨rfl, bthen' HB1.out hb2⟩
  have hl40 : L.length ≤ 40 := by omega
  have hd40 : D.length ≤ 40 := by omega
  go_enter Try.func6, Try.ntmps6
  go_upto_region 1 with fail
  show Code.wp _ _ _ _ (w.alloc (.cells #[.int .i64 keep, .int .i64 next] 52))
  rw [← hW1]
  clear hW1 hb1 KV
  go_upto_block 0 with (first
    | (refine wl_build_none_rec opOk rfl rfl ?_; have hO0 := Owns.made (R := opR) (B := W1.heap.size) (Nat.le_refl W1.heap.size); have hb0 : Below W1.heap.size W1 (W1.alloc (.cells #[] opR.ty)) := (Below.refl _ _).alloc (Nat.le_refl _) _; generalize W1.alloc (.cells #[] opR.ty) = W2 at hO0 hb0 ⊢; have hs0 := hb0.size)
    | (refine wl_append_all opOk rfl _ _ rfl rfl W1.heap.size _ _ ([] ++ L) D rfl rfl hO1 (HD.out.below hb1) (by simp; omega) hs1 ?_; intro u2 W4 hO2 hg2 hba2)
    | (refine wl_append_all opOk rfl _ _ rfl rfl W1.heap.size _ _ [] L rfl rfl hO0 (HL.out.below hb0) (by simp; omega) hs0 ?_; intro u1 W3 hO1 hg1 hba1; have hb1 : Below W1.heap.size W1 W3 := hb0.grown hg1 hs0 (fun k hk => (hO0.lt k hk).1); have hs1 := hb1.size))
  have HB4 := Lib.hid (show Below W1.heap.size W1 W4 from hb1.grown hg2 hs1 (fun k hk => (hO1.lt k hk).1))
  rw [List.nil_append] at hO2
  obtain ⟨ax, cx, hux, hcx⟩ := hO2.capOk
  subst hux
  have HX := Lib.hid (hO2.lts opOk)
  have HL4 := Lib.hid (HL.out.below HB4.out)
  have HD4 := Lib.hid (HD.out.below HB4.out)
  clear hO0 hb0 hs0 hO1 hg1 hba1 hb1 hs1 hO2 hg2 hba2 h1 h2 HL HD
  obtain ⟨X, hX⟩ : ∃ X, X = L ++ D := ⟨_, rfl⟩
  have hXlen : X.length ≤ 80 := by rw [hX]; simp; omega
  rw [← hX] at HX hcx ⊢
  clear hX
  go_wp2_with fail
  go_loopw [8] (fun i wr => ∃ k : Nat, k ≤ X.length ∧ i = .int .i64 k ∧ Below W4.heap.size W4 wr) (fun i _ => X.length - (intOf i).toNat)
  case atStart => exact ⟨0, by omega, rfl, Below.refl _ _⟩
  case round =>
    obtain ⟨k, hk, rfl, hW⟩ := hrel
    have HWR := Lib.hid hW
    by_cases hlt : k < X.length
    · obtain ⟨x, hx⟩ : ∃ x, X[k]? = some x := ⟨_, List.getElem?_eq_getElem hlt⟩
      obtain ⟨b, off, rfl, hr⟩ := (HX.out.below hW).at hx
      have HR := Lib.hid hr
      clear hx hr hW
      have KL := Lib.hid (long_any wr x)
      go_upto_if 38 with (first
        | (refine wpList_load_mid rfl 30 _ rfl b (off + k * 18) rfl x.cells _ HR.out Try.underlying30 rfl (opRow x) ?_)
        | (go_at_call 9; refine KL.out.mono ?_; rintro e W5 ⟨lg, rfl, hb5⟩))
      cases lg with
      | true =>
        have KV := Lib.hid (page_any W5)
        go_wp2_with (go_at_call 8; refine KV.out.mono ?_; rintro e W6 ⟨rfl, hb6⟩)
        go_ret
        exact ⟨rfl, bthen' HB1.out (bthen' HB4.out (bthen' HWR.out (bthen' hb5 hb6)))⟩
      | false =>
        go_wp2_with fail
        go_roundw
        case rel => exact ⟨k + 1, by omega, by go_num, bthen' HWR.out hb5⟩
        case measure => simp [intOf]; omega
    · obtain rfl : k = X.length := by omega
      have HX5 := Lib.hid (HX.out.below HWR.out)
      have HL5 := Lib.hid (HL4.out.below HWR.out)
      have HD5 := Lib.hid (HD4.out.below HWR.out)
      have HB5 := Lib.hid (bthen' HB1.out (bthen' HB4.out HWR.out))
      have hb15 := bthen' HB4.out HWR.out
      have q0 := below_cell hb15 HQ0.out
      have q1 := below_cell hb15 HQ1.out
      have KLo := Lib.hid (load_any wr keep next _ _ L D HL5.out HD5.out (by omega) (by omega))
      have KMa := Lib.hid (fun W (hb : Below wr.heap.size wr W) => maybe_any W keep next _ _ L D (HL5.out.below hb) (HD5.out.below hb) (by omega) (by omega))
      clear HX HL4 HD4 HB4 HWR hW
      generalize wr = Wa at *
      by_cases hmay : MayBe keep next L D
      · have HMAY := Lib.hid hmay
        have KLo2 := Lib.hid (KLo.out.mono (fun e w' h => (show ∃ (t : Nat) (T : Nat → Prop), e = .returned (.tuple #[.pointer (some ⟨t, 0, none⟩), .bool true]) ∧ Below Wa.heap.size Wa w' ∧ OT T w' t keep next L D ∧ ∀ k, T k → Wa.heap.size ≤ k from by
          rcases h with ⟨t, T, h1, h2⟩ | ⟨h1, _⟩
          · exact ⟨t, T, h2⟩
          · exact absurd HMAY.out h1)))
        have KMa2 := Lib.hid (fun W (hb : Below Wa.heap.size Wa W) => (KMa.out W hb).mono (fun e w' h => (show e = .returned (.bool true) ∧ Below W.heap.size W w' from by
          obtain ⟨bb, h1, h2, h3⟩ := h
          rw [h3.2 HMAY.out] at h1
          exact ⟨h1, h2⟩)))
        clear KLo KMa hmay
        go_upto_region 10 with (go_at_call 23; refine KLo2.out.mono ?_; rintro e W6 ⟨t, T, rfl, hb6, hOT6, hTlo6⟩)
        have HB6 := Lib.hid hb6
        have HO6 := Lib.hid hOT6
        have q0 := below_cell hb6 q0
        have q1 := below_cell hb6 q1
        clear hb6 hOT6 KLo2
        go_upto_region 14 with (go_at_call 24; refine (KMa2.out W6 HB6.out).mono ?_; rintro e W7 ⟨rfl, hb7⟩; have q0 := below_cell hb7 q0; have q1 := below_cell hb7 q1)
        have HB7 := Lib.hid (bthen' HB6.out hb7)
        have HO7 := Lib.hid (HO6.out.below hb7)
        go_upto_block 2 with fail
        have HS := both_loaded (W1 := W7) HL5.out HD5.out HB7.out HO7.out hTlo6
        obtain ⟨r, hre⟩ : ∃ r, r = W7.heap.size := ⟨_, rfl⟩
        rw [← hre] at HS ⊢
        generalize W7.alloc (.cells #[.int .i64 keep, .int .i64 next, .slice av L.length cv, .slice ad D.length cd] 46) = W8 at HS ⊢
        have KMAY := Lib.hid HMAY.out.1
        have HINI := Lib.hid (show L.length ≤ 40 ∧ D.length ≤ 40 from ⟨hl40, hd40⟩)
        clear hre q0 q1 HQ0 HQ1 HB6 HO6 HB7 HO7 hb7 KMa2 hTlo6 hb15 HL5 HD5 T HMAY
        generalize hLL : L = L0 at *
        clear hLL
        generalize hDD : D = D0 at *
        clear hDD
        go_wp2_with fail
        go_loopw [12] (fun i wr => ∃ (k : Nat) (L D : List OpV), k ≤ X.length ∧ L.length ≤ 40 ∧ D.length ≤ 40 + k ∧ i = .int .i64 k ∧ Both Wa wr t r keep next L D) (fun i _ => X.length - (intOf i).toNat)
        case atStart => exact ⟨0, L0, D0, by omega, HINI.out.1, by have := HINI.out.2; omega, rfl, HS⟩
        case round =>
          clear HS hk
          obtain ⟨k, L, D, hk, hL, hD, rfl, hB⟩ := hrel
          have HB := Lib.hid hB
          by_cases hlt : k < X.length
          · obtain ⟨x, hx⟩ : ∃ x, X[k]? = some x := ⟨_, List.getElem?_eq_getElem hlt⟩
            obtain ⟨b, off, rfl, hr⟩ := (HX5.out.below hB.1).at hx
            have HR := Lib.hid hr
            clear hx hr
            go_upto_region 19 with (first
              | (refine wpList_load_mid rfl 30 _ rfl b (off + k * 18) rfl x.cells _ HR.out Try.underlying30 rfl (opRow x) ?_)
              | (refine wpList_store_row rfl 30 _ _ rfl wr.heap.size x.cells.toArray rfl rfl 30 zeroOp.cells.toArray (heap_alloc_new _ _) (opRow' x) rfl (opOne x) ?_))
            show Code.wp _ _ _ _ ((wr.alloc (.cells zeroOp.cells.toArray 30)).setRow wr.heap.size x.cells.toArray)
            have hb3 : Below wr.heap.size wr ((wr.alloc (.cells zeroOp.cells.toArray 30)).setRow wr.heap.size x.cells.toArray) := below_row ((Below.refl _ _).alloc (Nat.le_refl _) _) (Nat.le_refl _) _
            have hx3 : Cel ((wr.alloc (.cells zeroOp.cells.toArray 30)).setRow wr.heap.size x.cells.toArray) wr.heap.size x.cells := cel_of_row (setRow_heap _ _ _ _ _ _ (heap_alloc_new _ _))
            generalize (wr.alloc (.cells zeroOp.cells.toArray 30)).setRow wr.heap.size x.cells.toArray = W3 at hb3 hx3 ⊢
            obtain ⟨hW, hrlo, hrhi, T, hTlo, hOT, hRT⟩ := HB.out
            have HTlt := Lib.hid (show ∀ k, T k → k < wr.heap.size from hOT.lt)
            have hT8 : ¬ T wr.heap.size := fun h9 => by have := HTlt.out _ h9; omega
            obtain ⟨b8, hb8⟩ : ∃ b8, b8 = wr.heap.size := ⟨_, rfl⟩
            have hs3 : wr.heap.size < W3.heap.size := hx3.lt (by simp [OpV.cells])
            rw [← hb8] at hx3 hT8 hs3 ⊢
            have hr8 : b8 ≠ r := by omega
            have hlo8 : Wa.heap.size ≤ b8 := by rw [hb8]; exact hW.size
            have HX3 := Lib.hid hx3
            have HB3 := Lib.hid (bthen' hW hb3)
            have HO3 := Lib.hid (hOT.below hb3)
            have hR3 := hRT.updP (UpdP.ofB hb3)
            obtain ⟨T3, hT3⟩ : ∃ T3, T3 = Gr T wr W3 := ⟨_, rfl⟩
            have h3b : T3 b8 := by rw [hT3]; exact .inr ⟨by omega, hs3⟩
            have h3T : ∀ k, T k → T3 k := fun k hk => by rw [hT3]; exact .inl hk
            rw [← hT3] at hR3
            have HR3 := Lib.hid hR3
            clear hb3 hx3 HB HR hOT hRT hR3 hT3 hW hrhi HTlt hb8 hB
            obtain ⟨vl, ve, hc3, -, -, hl3, hd3⟩ := HR3.out
            have SI := Lib.hid (show SameI T W3 t keep next L D vl ve from ⟨HO3.out, hl3.reads, hd3.reads⟩)
            obtain ⟨al, cl, rfl⟩ := hl3.form
            obtain ⟨ae, ce, rfl⟩ := hd3.form
            have KI := Lib.hid (fun W (hb : Below W3.heap.size W3 W) o => is_any T W t keep next L D _ _ (SI.out.below hb) o (by omega) (by omega))
            have hne : Nonempty (Mix.InS (fun z => Below W3.heap.size W3 z)) := ⟨⟨W3, Below.refl _ _⟩⟩
            have RR := Lib.hid (fun (w' : World) (hx : ∃ x : Mix.InS (fun z => Below W3.heap.size W3 z), w' = x.w) => (show w'.rangeAt r 0 [.int .i64 keep, .int .i64 next, .slice al L.length cl, .slice ae D.length ce] from by obtain ⟨z, rfl⟩ := hx; exact below_range z.h hc3.range))
            have R8 := Lib.hid (fun (w' : World) (hx : ∃ x : Mix.InS (fun z => Below W3.heap.size W3 z), w' = x.w) => (show w'.rangeAt b8 0 x.cells from by obtain ⟨z, rfl⟩ := hx; exact below_range z.h HX3.out.range))
            clear hc3 hl3 hd3
            simp only [Act.put]
            refine Mix.wp_region_mix [([0, 1, 2, 3, 4], 5)] [6] (fun w' => ∃ x : Mix.InS (fun z => Below W3.heap.size W3 z), w' = x.w) (by kernel_rfl) (by kernel_rfl) (Mix.inS_mk (Below.refl _ _).drew) ?_
            have hd4 : Below W3.heap.size W3 W3.drew := (Below.refl _ _).drew
            generalize W3.drew = W4' at hd4 ⊢
            refine Mix.stages_cons ?_
            simp only [Mix.pickL, List.getElem?_cons_zero, List.getElem?_cons_succ]
            repeat (first
              | go_big_quiet_skip
              | (go_big_quiet_want; first
                | (refine quiet_load_mid 46 _ rfl r 0 rfl [.int .i64 keep, .int .i64 next, .slice al L.length cl, .slice ae D.length ce] _ RR.out Try.underlying46 rfl rtRow ?_; simp only [Act.put, List.setIfInBounds_toArray, List.set_cons_succ, List.set_cons_zero]; go_big_quiet_on)
                | (refine quiet_load_mid 30 _ rfl b8 0 rfl x.cells _ R8.out Try.underlying30 rfl (opRow x) ?_; simp only [Act.put, List.setIfInBounds_toArray, List.set_cons_succ, List.set_cons_zero]; go_big_quiet_on)
                | (go_big_quiet_op; go_big_quiet_on)))
            refine wpQuiet_nil ?_
            go_wp2_with (go_at_call 21; refine (KI.out W4' hd4 _).mono ?_; rintro e W5' ⟨rfl, hb5⟩)
            have hd5 := bthen' hd4 hb5
            refine Mix.onward_in hd5 ?_
            refine Mix.stages_nil ?_
            simp only [Mix.pickL, List.getElem?_cons_zero, List.getElem?_cons_succ]
            repeat (first
              | go_big_quiet_skip
              | (go_big_quiet_want; (go_big_quiet_op; go_big_quiet_on)))
            refine wpQuiet_nil ?_
            clear hne RR R8 KI SI
            have HX5' := HX3.out.below hd5
            have f8 := HX5'.free (i := 8) rfl
            have c8 := HX5'.get (i := 8) rfl
            go_upto_region 22 with fail
            clear f8 c8
            obtain ⟨o, ho⟩ : ∃ o : OpV, o = { x with st := 5 } := ⟨_, rfl⟩
            have hX6 : Cel (W5'.setCell ⟨b8, 8, none⟩ (.int .i64 5)) b8 o.cells := by rw [ho]; exact HX5'.set 8 _
            have hu6 : Upd [b8] W5' (W5'.setCell ⟨b8, 8, none⟩ (.int .i64 5)) := (Upd.refl _ _).setCell (by simp) _
            generalize W5'.setCell ⟨b8, 8, none⟩ (.int .i64 5) = W6' at hX6 hu6 ⊢
            have hs35 := hd5.size
            have hs56 := hu6.size
            have HXa := Lib.hid hX6
            have HOa := Lib.hid ((HO3.out.below hd5).upd hu6 (fun k hk => by simp at hk; subst hk; exact hT8))
            have HRa := Lib.hid (rt_upd (HR3.out.below hd5) hu6 h3b h3T)
            have HBa := Lib.hid (hu6.toBelow (bthen' HB3.out hd5) (bthen' HB3.out hd5).size (by simpa using hlo8))
            have hrr : r < W6'.heap.size := by obtain ⟨_, _, _, _, h9, _⟩ := HRa.out; exact h9
            clear ho hX6 hu6 HX3 HO3 HR3 HB3 HX5' hb5 hd4 hd5
            have hne : Nonempty (Mix.InS (fun z => z.rangeAt b8 0 o.cells)) := ⟨⟨W6', HXa.out.range⟩⟩
            have RB := Lib.hid (fun (w' : World) (hx : ∃ x : Mix.InS (fun z => z.rangeAt b8 0 o.cells), w' = x.w) => (show w'.rangeAt b8 0 o.cells from by obtain ⟨z, rfl⟩ := hx; exact z.h))
            (try simp only [Act.put])
            refine Mix.wp_region_mix [([0, 1, 3, 4], 2), ([], 5), ([6, 7, 8, 9, 10, 11, 12], 13)] [14, 15] (fun w' => ∃ x : Mix.InS (fun z => z.rangeAt b8 0 o.cells), w' = x.w) (by kernel_rfl) (by kernel_rfl) (Mix.inS_mk (below_range ((Below.refl _ _).drew) HXa.out.range)) ?_
            have hdr : Below W6'.heap.size W6' W6'.drew := (Below.refl _ _).drew
            have hds := hdr.size
            generalize W6'.drew = W7' at hdr hds ⊢
            have KK1 := Lib.hid HOa.out.inv
            have hk1 : 1 ≤ keep := by have := KMAY.out; omega
            have KA := Lib.hid (set_T (HOa.out.below hdr) o hk1 (by omega) (by omega))
            refine Mix.stages_cons ?_
            simp only [Mix.pickL, List.getElem?_cons_zero, List.getElem?_cons_succ]
            repeat (first
              | go_big_quiet_skip
              | (go_big_quiet_want; first
                | (refine quiet_load_mid 30 _ rfl b8 0 rfl o.cells _ RB.out Try.underlying30 rfl (opRow o) ?_; simp only [Act.put, List.setIfInBounds_toArray, List.set_cons_succ, List.set_cons_zero]; go_big_quiet_on)
                | (go_big_quiet_op; go_big_quiet_on)))
            refine wpQuiet_nil ?_
            go_wp2_with (go_at_call 15; refine KA.out.mono ?_; rintro e W9' ⟨rfl, hu7, hot7⟩)
            have HX7 := Lib.hid (cel_updP (HXa.out.below hdr) hu7 hT8 (HXa.out.below hdr |>.lt (by simp [OpV.cells])))
            have HH7 := Lib.hid (Half.start (bthen' HBa.out hdr) hrlo (by omega) hTlo (HRa.out.below hdr) hu7 hot7)
            generalize Gr T W7' W9' = T7 at HH7
            clear hu7 hot7 KA
            have KR := Lib.hid (rset_any T7 W9' r keep next L D HH7.out.2.2.2.2.2 o (by omega) (by omega) (HH7.out.2.2.2.2.1.lt) KK1.out.nodL)
            refine Mix.onward_in HX7.out.range ?_
            refine Mix.stages_cons ?_
            simp only [Mix.pickL, List.getElem?_cons_zero, List.getElem?_cons_succ]
            refine wpQuiet_nil ?_
            go_wp2_with (go_at_call 20; refine KR.out.mono ?_; rintro e W10 ⟨rfl, hu8, hrt8⟩)
            have HX8 := Lib.hid (HX7.out.upd hu8 (by simpa using hr8))
            have HB8 := Lib.hid (HH7.out.fin hu8 hrt8)
            clear hu8 hrt8 KR
            have e1 := setsL_len L o
            have e2 := setsD_len keep L D o
            obtain ⟨_, _, _, T8, hT8', hO8, hR8⟩ := HB8.out
            obtain ⟨vl8, ve8, hc8, -, -, hl8, hd8⟩ := hR8
            generalize setsL L o = L8 at *
            generalize setsD keep L D o = D8 at *
            have SI := Lib.hid (show SameI T8 W10 t keep next L8 D8 vl8 ve8 from ⟨hO8, hl8.reads, hd8.reads⟩)
            obtain ⟨al8, cl8, rfl⟩ := hl8.form
            obtain ⟨ae8, ce8, rfl⟩ := hd8.form
            have KI := Lib.hid (is_any T8 W10 t keep next L8 D8 _ _ SI.out o (by omega) (by omega))
            refine Mix.onward_sub (S' := fun z => Below W10.heap.size W10 z ∧ z.rangeAt b8 0 o.cells) (fun z hz => hz.2) ⟨Below.refl _ _, HX8.out.range⟩ ?_
            have hne2 : Nonempty (Mix.InS (fun z => Below W10.heap.size W10 z ∧ z.rangeAt b8 0 o.cells)) := ⟨⟨W10, Below.refl _ _, HX8.out.range⟩⟩
            have RB2 := Lib.hid (fun (w' : World) (hx : ∃ x : Mix.InS (fun z => Below W10.heap.size W10 z ∧ z.rangeAt b8 0 o.cells), w' = x.w) => (show w'.rangeAt b8 0 o.cells from by obtain ⟨z, rfl⟩ := hx; exact z.h.2))
            have RR2 := Lib.hid (fun (w' : World) (hx : ∃ x : Mix.InS (fun z => Below W10.heap.size W10 z ∧ z.rangeAt b8 0 o.cells), w' = x.w) => (show w'.rangeAt r 0 [.int .i64 keep, .int .i64 next, .slice al8 L8.length cl8, .slice ae8 D8.length ce8] from by obtain ⟨z, rfl⟩ := hx; exact below_range z.h.1 hc8.range))
            clear hne RB hc8 hl8 hd8 hO8
            refine Mix.stages_cons ?_
            simp only [Mix.pickL, List.getElem?_cons_zero, List.getElem?_cons_succ]
            repeat (first
              | go_big_quiet_skip
              | (go_big_quiet_want; first
                | (refine quiet_load_mid 46 _ rfl r 0 rfl [.int .i64 keep, .int .i64 next, .slice al8 L8.length cl8, .slice ae8 D8.length ce8] _ RR2.out Try.underlying46 rfl rtRow ?_; simp only [Act.put, List.setIfInBounds_toArray, List.set_cons_succ, List.set_cons_zero]; go_big_quiet_on)
                | (refine quiet_load_mid 30 _ rfl b8 0 rfl o.cells _ RB2.out Try.underlying30 rfl (opRow o) ?_; simp only [Act.put, List.setIfInBounds_toArray, List.set_cons_succ, List.set_cons_zero]; go_big_quiet_on)
                | (go_big_quiet_op; go_big_quiet_on)))
            refine wpQuiet_nil ?_
            go_wp2_with (go_at_call 21; refine KI.out.mono ?_; rintro e W11 ⟨rfl, hb11⟩)
            refine Mix.onward_in ⟨hb11, below_range hb11 HX8.out.range⟩ ?_
            refine Mix.stages_nil ?_
            simp only [Mix.pickL, List.getElem?_cons_zero, List.getElem?_cons_succ]
            repeat (first
              | go_big_quiet_skip
              | (go_big_quiet_want; (go_big_quiet_op; go_big_quiet_on)))
            refine wpQuiet_nil ?_
            clear hne2 RB2 RR2
            go_wp2_with fail
            go_roundw
            case rel => exact ⟨k + 1, L8, D8, by omega, by omega, by omega, by go_num, HB8.out.below' hb11⟩
            case measure => simp [intOf]; omega
          · go_wp2_with (go_at_call 8; refine (page_any _).mono ?_; rintro e W9 ⟨rfl, hb9⟩)
            go_ret
            exact ⟨rfl, bthen' HB5.out (bthen' hB.1 hb9)⟩
      · have HMAY := Lib.hid hmay
        have KLo2 := Lib.hid (KLo.out.mono (fun e w' h => (show e = .returned (.tuple #[.pointer none, .bool false]) ∧ Below Wa.heap.size Wa w' from by
          rcases h with ⟨t, T, h1, h2⟩ | ⟨h1, h2⟩
          · exact absurd h1 HMAY.out
          · exact h2)))
        have KMa2 := Lib.hid (fun W (hb : Below Wa.heap.size Wa W) => (KMa.out W hb).mono (fun e w' h => (show e = .returned (.bool false) ∧ Below W.heap.size W w' from by
          obtain ⟨bb, h1, h2, h3⟩ := h
          cases bb with
          | true => exact absurd (h3.1 rfl) HMAY.out
          | false => exact ⟨h1, h2⟩)))
        clear KLo KMa hmay
        go_upto_region 10 with (go_at_call 23; refine KLo2.out.mono ?_; rintro e W6 ⟨rfl, hb6⟩)
        have q0 := below_cell hb6 q0
        have q1 := below_cell hb6 q1
        clear KLo2
        go_wp2_with (first
          | (go_at_call 24; refine (KMa2.out W6 hb6).mono ?_; rintro e W7 ⟨rfl, hb7⟩)
          | (go_at_call 8; refine (page_any _).mono ?_; rintro e W8 ⟨rfl, hb8⟩))
        go_ret
        exact ⟨rfl, bthen' HB5.out (bthen' hb6 (bthen' hb7 hb8))⟩
end Go.Proofs.Ytddmajgadaooaaa
