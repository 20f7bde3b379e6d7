/- The walk of the statement on calls (printed by genwhacts.py). -/
import Derived.Test.YtkbjlpdmmbldpaaWhIs
set_option linter.unusedVariables false
set_option linter.unusedSimpArgs false
set_option maxRecDepth 100000
namespace Go.Proofs.Ytkbjlpdmmbldpaa
open Go.RowKit

/-- The wheel, and the document's beside it. -/
def Half (w wr : World) (p r now2 : Nat) (L2 : List Tm) (now : Nat) (L : List Tm) (T G : Nat → Prop) : Prop :=
  Below w.heap.size w wr ∧ (∀ k, T k → w.heap.size ≤ k) ∧ (∀ k, G k → w.heap.size ≤ k) ∧ (∀ k, T k → ¬ G k) ∧ WT T wr p now2 L2 ∧ RW G wr r now L
def Both (w wr : World) (p r now : Nat) (L : List Tm) : Prop := (∀ x ∈ L, x.k = 0) ∧ ∃ T G : Nat → Prop, Half w wr p r now L now L T G
theorem Half.below' {w wr w' : World} {p r now2 now : Nat} {L2 L : List Tm} {T G : Nat → Prop} (h : Half w wr p r now2 L2 now L T G) (hb : Below wr.heap.size wr w') : Half w w' p r now2 L2 now L T G := by
  obtain ⟨h1, h2, h3, h4, h5, h6⟩ := h
  exact ⟨bthen' h1 hb, h2, h3, h4, h5.below hb, h6.below hb⟩
theorem Both.below' {w wr w' : World} {p r now : Nat} {L : List Tm} (h : Both w wr p r now L) (hb : Below wr.heap.size wr w') : Both w w' p r now L := by
  obtain ⟨h0, T, G, h1⟩ := h
  exact ⟨h0, T, G, h1.below' hb⟩
theorem Half.turn {w wr w' : World} {p r now now2 : Nat} {L L2 : List Tm} {T G T' : Nat → Prop} (h : Half w wr p r now L now L T G) (hu : UpdP T wr w') (ho : WT T' w' p now2 L2) (hT' : ∀ k, T' k → Gr T wr w' k) : Half w w' p r now2 L2 now L T' G := by
  obtain ⟨h1, h2, h3, h4, h5, h6⟩ := h
  have hs := h1.size
  refine ⟨hu.toB h1 hs h2, fun k hk => ?_, h3, fun k hk h9 => ?_, ho, h6.updP hu h4⟩
  · rcases hT' k hk with h9 | h9
    · exact h2 k h9
    · omega
  · rcases hT' k hk with h8 | h8
    · exact h4 k h8 h9
    · have := h6.lt k h9; omega
theorem Half.fin {w wr w' : World} {p r now now2 : Nat} {L L2 : List Tm} {T G G' : Nat → Prop} (h : Half w wr p r now2 L2 now L T G) (hu : UpdP G wr w') (hk0 : ∀ x ∈ L2, x.k = 0) (ho : RW G' w' r now2 L2) (hG' : ∀ k, G' k → Gr G wr w' k) : Both w w' p r now2 L2 := by
  obtain ⟨h1, h2, h3, h4, h5, h6⟩ := h
  have hs := h1.size
  refine ⟨hk0, T, G', hu.toB h1 hs h3, h2, fun k hk => ?_, fun k hk h9 => ?_, h5.updP hu (fun k hk h9 => h4 k h9 hk), ho⟩
  · rcases hG' k hk with h9 | h9
    · exact h3 k h9
    · omega
  · rcases hG' k h9 with h8 | h8
    · exact h4 k hk h8
    · have := h5.lt k hk; omega
/-- The call's own cells. -/
def Own3 (b8 : Nat) (a : Ac) (x : World) : Prop := x.cell? ⟨b8, 1, none⟩ = some (.int .i64 a.id) ∧ x.cell? ⟨b8, 2, none⟩ = some (.int .u64 (a.t : Int))
theorem Own3.updP {P : Nat → Prop} {b8 : Nat} {a : Ac} {x x' : World} (h : Own3 b8 a x) (hu : UpdP P x x') (hP : ¬ P b8) : Own3 b8 a x' := by
  have hb := hu.block b8 (World.block_lt_of_cell? x _ h.1) hP
  exact ⟨(World.cell?_of_block (w := x) (a := ⟨b8, 1, none⟩) hb).trans h.1, (World.cell?_of_block (w := x) (a := ⟨b8, 2, none⟩) hb).trans h.2⟩
theorem Own3.below {b8 : Nat} {a : Ac} {x x' : World} (h : Own3 b8 a x) (hb : Below x.heap.size x x') : Own3 b8 a x' := h.updP (P := fun _ => False) (UpdP.ofB hb) (by simp)
theorem Own3.lt {b8 : Nat} {a : Ac} {x : World} (h : Own3 b8 a x) : b8 < x.heap.size := World.block_lt_of_cell? x _ h.1
/-- Behind a call. -/
def Called (w : World) (p r b8 : Nat) (a : Ac) (k : Nat) (wx : World) : Prop := ∃ (now : Nat) (L : List Tm), L.length ≤ k ∧ Both w wx p r now L ∧ Own3 b8 a wx
theorem actRow (l : List Value) (h : l.length = 3) : (Try.prog.info? 39).map (·.size) = some l.length := by rw [h]; kernel_rfl
theorem rest_len (L : List Tm) (t : Nat) : (restT L t).length ≤ L.length := List.length_filter_le _ _
theorem but_len (L : List Tm) (i : Int) : (butT L i).length ≤ L.length := List.length_filter_le _ _

set_option maxHeartbeats 2000000 in
theorem wheelActs_far (w : World) (now : Int) (v : Value) (A : List Ac) (hv : Reads acR w v A) (h : 200 < A.length) :
    Calls Try.prog 4 #[.int .u64 now, v] w fun e w' => e = .returned (.bool true) ∧ Below w.heap.size w w' := by
  obtain ⟨av, capv, rfl⟩ := hv.form
  clear hv
  have KV := Lib.hid (live08_any w)
  go_enter Try.func4, Try.ntmps4
  go_wp2_with (go_at_call 9; refine KV.out.mono ?_; rintro e W2 ⟨rfl, hb2⟩)
  go_ret
  exact ⟨rfl, hb2⟩
theorem both_start {w W1 : World} {p now : Nat} (hb1 : Below w.heap.size w W1) (hT : WT (fun k => w.heap.size ≤ k ∧ k < W1.heap.size) W1 p now []) :
    Both w (W1.alloc (.cells #[.int .u64 (now : Int), .slice none 0 0] 37)) p W1.heap.size now [] := by
  have hb2 : Below W1.heap.size W1 (W1.alloc (.cells #[.int .u64 (now : Int), .slice none 0 0] 37)) := (Below.refl _ _).alloc (Nat.le_refl _) _
  have hs := hb1.size
  refine ⟨by simp, _, (fun k => k = W1.heap.size), bthen' hb1 hb2, fun k hk => hk.1, fun k hk => by omega, fun k hk h9 => by omega, hT.below hb2, ⟨_, Cel.new W1 37 [.int .u64 (now : Int), .slice none 0 0], rfl, Owns.nil _ _ _, fun k hk => by cases hk⟩, fun k hk => by simp; omega⟩

set_option maxHeartbeats 8000000 in
theorem wheelActs_yes (w : World) (now0 : Nat) (v : Value) (A : List Ac) (hnow : now0 < 18446744073709551616) (hv : Reads acR w v A) (hA : ∀ a ∈ A, a.t < 18446744073709551616) (c1 : A.length ≤ 200) :
    Calls Try.prog 4 #[.int .u64 (now0 : Int), v] w fun e w' => e = .returned (.bool true) ∧ Below w.heap.size w w' := by
  obtain ⟨av, capv, rfl⟩ := hv.form
  have HV := Lib.hid hv
  have HA := Lib.hid hA
  have KN := Lib.hid (new_any w now0 hnow)
  clear hv hA hnow
  go_enter Try.func4, Try.ntmps4
  go_upto_block 0 with (go_at_call 10; refine KN.out.mono ?_; rintro e W1 ⟨p, rfl, hb1, hT1⟩)
  have HS := both_start hb1 hT1
  obtain ⟨r, hre⟩ : ∃ r, r = W1.heap.size := ⟨_, rfl⟩
  rw [← hre] at HS ⊢
  generalize W1.alloc (.cells #[.int .u64 (now0 : Int), .slice none 0 0] 37) = W2 at HS ⊢
  clear hb1 hT1 KN hre
  go_wp2_with fail
  go_loopw [7] (fun i wr => ∃ (k now : Nat) (L : List Tm), k ≤ A.length ∧ L.length ≤ k ∧ i = .int .i64 k ∧ Both w wr p r now L) (fun i _ => A.length - (intOf i).toNat)
  case atStart => exact ⟨0, now0, [], by omega, by simp, rfl, HS⟩
  case round =>
    clear HS
    obtain ⟨k, now, L, hk, hL, rfl, hB⟩ := hrel
    have HB := Lib.hid hB
    obtain ⟨-, -, -, hbw, -⟩ := hB
    by_cases hlt : k < A.length
    · obtain ⟨a, ha⟩ : ∃ a, A[k]? = some a := ⟨_, List.getElem?_eq_getElem hlt⟩
      have hta := HA.out a (List.mem_of_getElem? ha)
      obtain ⟨b, off, rfl, hr2⟩ := (HV.out.below hbw).at ha
      have HR2 := Lib.hid hr2
      clear ha hr2
      go_upto_region 9 with (first
        | (refine wpList_load_mid rfl 39 _ rfl b (off + k * acR.n) rfl (acR.cells a) _ HR2.out Try.underlying39 rfl (acOk.row a) ?_)
        | (refine wpList_store_row rfl 39 _ _ rfl wr.heap.size #[.int .i64 a.kind, .int .i64 a.id, .int .u64 (a.t : Int)] rfl rfl 39 #[.int .i64 0, .int .i64 0, .int .u64 0] (heap_alloc_new _ _) (actRow _ rfl) rfl (timOne3 _ _ _) ?_))
      show Code.wp _ _ _ _ ((wr.alloc (.cells #[.int .i64 0, .int .i64 0, .int .u64 0] 39)).setRow wr.heap.size #[.int .i64 a.kind, .int .i64 a.id, .int .u64 (a.t : Int)])
      have hb3 : Below wr.heap.size wr ((wr.alloc (.cells #[.int .i64 0, .int .i64 0, .int .u64 0] 39)).setRow wr.heap.size #[.int .i64 a.kind, .int .i64 a.id, .int .u64 (a.t : Int)]) := below_row ((Below.refl _ _).alloc (Nat.le_refl _) _) (Nat.le_refl _) _
      have hx3 := setRow_heap #[.int .i64 a.kind, .int .i64 a.id, .int .u64 (a.t : Int)] (heap_alloc_new wr (.cells #[.int .i64 0, .int .i64 0, .int .u64 0] 39))
      generalize (wr.alloc (.cells #[.int .i64 0, .int .i64 0, .int .u64 0] 39)).setRow wr.heap.size #[.int .i64 a.kind, .int .i64 a.id, .int .u64 (a.t : Int)] = W3 at hb3 hx3 ⊢
      obtain ⟨hk0, T, G, hH⟩ := HB.out
      have hT8 : ¬ T wr.heap.size := fun h9 => by have := hH.2.2.2.2.1.lt _ h9; omega
      have hG8 : ¬ G wr.heap.size := fun h9 => by have := hH.2.2.2.2.2.lt _ h9; omega
      obtain ⟨b8, hb8⟩ : ∃ b8, b8 = wr.heap.size := ⟨_, rfl⟩
      rw [← hb8] at hx3 hT8 hG8 ⊢
      have HH := Lib.hid (hH.below' hb3)
      have HK0 := Lib.hid hk0
      have g0 : W3.cell? ⟨b8, 0, none⟩ = some (.int .i64 a.kind) := cell_of_row W3 _ _ _ _ _ hx3
      have HO := Lib.hid (show Own3 b8 a W3 from ⟨cell_of_row W3 _ _ _ _ _ hx3, cell_of_row W3 _ _ _ _ _ hx3⟩)
      clear hb3 hx3 HB hH hb8 hk0 hbw HR2
      go_upto_block 2 with fail
      clear g0
      have hne : Nonempty (Mix.InS (fun x => Own3 b8 a x)) := ⟨⟨W3, HO.out⟩⟩
      have hdr : Below W3.heap.size W3 W3.drew := (Below.refl _ _).drew
      have HOD := Lib.hid (HO.out.below hdr)
      have HHD := Lib.hid (HH.out.below' hdr)
      clear hdr
      go_cut [] (fun wx => Called w p r b8 a (k + 1) wx)
      case first =>
        have d1 := fun (z : Mix.InS (fun x => Own3 b8 a x)) => z.h.1
        have d2 := fun (z : Mix.InS (fun x => Own3 b8 a x)) => z.h.2
        cases e0 : (a.kind == 0) with
        | true =>
          go_upto_region 13 with fail
          refine Mix.wp_region_mix [([0, 1, 2, 3, 4, 7, 8, 9, 10, 11], 5), ([], 6), ([], 12)] [13] (fun w' => ∃ x : Mix.InS (fun x => Own3 b8 a x), w' = x.w) (by kernel_rfl) (by kernel_rfl) (Mix.inS_mk (HO.out.below ((Below.refl _ _).drew))) ?_
          generalize W3.drew = W6 at HOD HHD ⊢
          have KA := Lib.hid (put_any HHD.out.2.2.2.2.1 a.id a.t hta (by omega))
          have hb8w := HOD.out.lt
          refine Mix.stages_cons ?_
          simp only [Mix.pickL, List.getElem?_cons_zero, List.getElem?_cons_succ]
          repeat (first
            | go_big_quiet_skip
            | (go_big_quiet_want; (go_big_quiet_op; go_big_quiet_on)))
          refine wpQuiet_nil ?_
          go_wp2_with (go_at_call 17; refine KA.out.mono ?_; rintro e W7 ⟨rfl, hu7, hot7⟩)
          have HO7 := Lib.hid (HOD.out.updP hu7 hT8)
          have HH7 := Lib.hid (HHD.out.turn hu7 hot7 (fun k hk => hk))
          have KR := Lib.hid (rput_any HH7.out.2.2.2.2.2 a.id a.t (by omega))
          clear hu7 hot7 KA
          refine Mix.onward_in HO7.out ?_
          refine Mix.stages_cons ?_
          simp only [Mix.pickL, List.getElem?_cons_zero, List.getElem?_cons_succ]
          refine wpQuiet_nil ?_
          go_wp2_with (go_at_call 16; refine (num_any _ _).mono ?_; rintro e w' ⟨rfl, rfl⟩)
          refine Mix.onward_in HO7.out ?_
          refine Mix.stages_cons ?_
          simp only [Mix.pickL, List.getElem?_cons_zero, List.getElem?_cons_succ]
          refine wpQuiet_nil ?_
          go_wp2_with (go_at_call 18; refine KR.out.mono ?_; rintro e W8 ⟨rfl, hu8, hrt8⟩)
          have HO8 := Lib.hid (HO7.out.updP hu8 hG8)
          have HB8 := Lib.hid (HH7.out.fin hu8 (putT_k HK0.out a.id a.t) hrt8 (fun k hk => hk))
          clear hu8 hrt8 KR
          refine Mix.onward_in HO8.out ?_
          refine Mix.stages_nil ?_
          simp only [Mix.pickL, List.getElem?_cons_zero, List.getElem?_cons_succ]
          repeat (first
            | go_big_quiet_skip
            | (go_big_quiet_want; (go_big_quiet_op; go_big_quiet_on)))
          refine wpQuiet_nil ?_
          clear hne d1 d2
          go_wp2_with fail
          go_meet
          have e1 := putT_len L a.id a.t
          exact ⟨now, _, by omega, HB8.out, HO8.out⟩
        | false =>
          cases e1 : (a.kind == 1) with
          | true =>
            go_upto_region 16 with fail
            refine Mix.wp_region_mix [([0, 1, 2, 4, 5, 6], 3), ([], 7)] [8] (fun w' => ∃ x : Mix.InS (fun x => Own3 b8 a x), w' = x.w) (by kernel_rfl) (by kernel_rfl) (Mix.inS_mk (HO.out.below ((Below.refl _ _).drew))) ?_
            generalize W3.drew = W6 at HOD HHD ⊢
            have KA := Lib.hid (drop_any HHD.out.2.2.2.2.1 a.id (by omega))
            have hb8w := HOD.out.lt
            refine Mix.stages_cons ?_
            simp only [Mix.pickL, List.getElem?_cons_zero, List.getElem?_cons_succ]
            repeat (first
              | go_big_quiet_skip
              | (go_big_quiet_want; (go_big_quiet_op; go_big_quiet_on)))
            refine wpQuiet_nil ?_
            go_wp2_with (go_at_call 19; refine KA.out.mono ?_; rintro e W7 ⟨rfl, hu7, hot7⟩)
            have HO7 := Lib.hid (HOD.out.updP hu7 hT8)
            have HH7 := Lib.hid (HHD.out.turn hu7 hot7 (fun k hk => hk))
            have KR := Lib.hid (rdrop_any HH7.out.2.2.2.2.2 a.id (by omega))
            clear hu7 hot7 KA
            refine Mix.onward_in HO7.out ?_
            refine Mix.stages_cons ?_
            simp only [Mix.pickL, List.getElem?_cons_zero, List.getElem?_cons_succ]
            refine wpQuiet_nil ?_
            go_wp2_with (go_at_call 20; refine KR.out.mono ?_; rintro e W8 ⟨rfl, hu8, hrt8⟩)
            have HO8 := Lib.hid (HO7.out.updP hu8 hG8)
            have HB8 := Lib.hid (HH7.out.fin hu8 (fun x hx => HK0.out x (List.mem_filter.1 hx).1) hrt8 (fun k hk => hk))
            clear hu8 hrt8 KR
            refine Mix.onward_in HO8.out ?_
            refine Mix.stages_nil ?_
            simp only [Mix.pickL, List.getElem?_cons_zero, List.getElem?_cons_succ]
            repeat (first
              | go_big_quiet_skip
              | (go_big_quiet_want; (go_big_quiet_op; go_big_quiet_on)))
            refine wpQuiet_nil ?_
            clear hne d1 d2
            go_wp2_with fail
            go_meet
            have e1 := but_len L a.id
            exact ⟨now, _, by omega, HB8.out, HO8.out⟩
          | false =>
            go_upto_region 10 with fail
            refine Mix.wp_region_mix [([0, 1, 2, 4, 5, 6], 3), ([], 7), ([], 8)] [9] (fun w' => ∃ x : Mix.InS (fun x => Own3 b8 a x), w' = x.w) (by kernel_rfl) (by kernel_rfl) (Mix.inS_mk (HO.out.below ((Below.refl _ _).drew))) ?_
            generalize W3.drew = W6 at HOD HHD ⊢
            have KA := Lib.hid (turn_any HHD.out.2.2.2.2.1 HK0.out a.t hta (by omega))
            have hb8w := HOD.out.lt
            have hnod := HHD.out.2.2.2.2.1.nod
            refine Mix.stages_cons ?_
            simp only [Mix.pickL, List.getElem?_cons_zero, List.getElem?_cons_succ]
            repeat (first
              | go_big_quiet_skip
              | (go_big_quiet_want; (go_big_quiet_op; go_big_quiet_on)))
            refine wpQuiet_nil ?_
            go_wp2_with (go_at_call 12; refine KA.out.mono ?_; rintro e W7 ⟨ov, out, rfl, hu7, ⟨T', hw7, hT7, hov7⟩, ho7, htk⟩)
            have HO7 := Lib.hid (HOD.out.updP hu7 hT8)
            have HH7 := Lib.hid (HHD.out.turn hu7 hw7 hT7)
            have HV7 := Lib.hid ho7
            have HTK := Lib.hid htk
            have hGlt := Lib.hid HHD.out.2.2.2.2.2.lt
            have KR := Lib.hid (rturn_any HH7.out.2.2.2.2.2 hnod a.t (by omega))
            clear hu7 hw7 hT7 hov7 ho7 htk KA
            refine Mix.onward_in HO7.out ?_
            refine Mix.stages_cons ?_
            simp only [Mix.pickL, List.getElem?_cons_zero, List.getElem?_cons_succ]
            refine wpQuiet_nil ?_
            go_wp2_with (go_at_call 21; refine KR.out.mono ?_; rintro e W8 ⟨ov2, out2, rfl, hu8, ⟨G', hw8, hG8', hov8⟩, ho8, htk8⟩)
            obtain rfl := htk8.unique HTK.out
            have HO8 := Lib.hid (HO7.out.updP hu8 hG8)
            have HB8 := Lib.hid (HH7.out.fin hu8 (fun x hx => HK0.out x (List.mem_filter.1 hx).1) hw8 hG8')
            have HV8 := Lib.hid (owns_keepsR HV7.out (fun k hk => hu8.block k (HV7.out.lt k hk).2 (fun h9 => by have h1 := (HV7.out.lt k hk).1; have h2 := hGlt.out k h9; omega)))
            have hln : out2.length ≤ L.length := nodup_lenT (htk8.srt.imp (fun h9 e9 => by subst e9; unfold ltT at h9; omega)) (fun x hx => ((HTK.out.mem x).1 hx).1)
            have KS := Lib.hid (same_any W8 ov ov2 out2 out2 (HV8.out.lts timOk) (ho8.lts timOk) (by omega))
            have qs : decide (out2 = out2) = true := by simp
            clear hu8 hw8 hG8' hov8 ho8 htk8 KR
            refine Mix.onward_in HO8.out ?_
            refine Mix.stages_cons ?_
            simp only [Mix.pickL, List.getElem?_cons_zero, List.getElem?_cons_succ]
            refine wpQuiet_nil ?_
            go_wp2_with (go_at_call 13; refine KS.out.mono ?_; rintro e W9 ⟨rfl, hb9⟩)
            have HO9 := Lib.hid (HO8.out.below hb9)
            have HB9 := Lib.hid (HB8.out.below' hb9)
            clear hb9 KS
            refine Mix.onward_in HO9.out ?_
            refine Mix.stages_nil ?_
            simp only [Mix.pickL, List.getElem?_cons_zero, List.getElem?_cons_succ]
            repeat (first
              | go_big_quiet_skip
              | (go_big_quiet_want; (go_big_quiet_op; go_big_quiet_on)))
            refine wpQuiet_nil ?_
            clear hne d1 d2
            go_wp2_with fail
            go_meet
            have e1 := rest_len L a.t
            exact ⟨(max now a.t), _, by omega, HB9.out, HO9.out⟩
      case rest =>
        clear HO HOD HH HHD hne
        obtain ⟨now2, L2, hL2, hB5, hO5⟩ := hcut
        have HB5 := Lib.hid hB5
        obtain ⟨-, T5, G5, hH5⟩ := hB5
        have KI := Lib.hid (is08_any hH5.2.2.2.2.1 hH5.2.2.2.2.2 a.id (by omega))
        have o1 := hO5.1
        clear hH5 hO5
        go_wp2_with (go_at_call 22; refine KI.out.mono ?_; rintro e W9 ⟨rfl, hb9⟩)
        go_roundw
        case rel => exact ⟨k + 1, now2, L2, by omega, hL2, by go_num, HB5.out.below' hb9⟩
        case measure => simp [intOf]; omega
    · go_wp2_with (go_at_call 9; refine (live08_any _).mono ?_; rintro e W8 ⟨rfl, hb8⟩)
      go_ret
      exact ⟨rfl, bthen' hbw hb8⟩

theorem wheelActs_of (w : World) (z : Int) (v : Value) (A : List Ac) (hz : (Lit.int .u64 z).wf = true) (hv : Reads acR w v A) (hA : ∀ a ∈ A, a.t < 18446744073709551616) :
    Calls Try.prog 4 #[.int .u64 z, v] w fun e w' => e = .returned (.bool true) ∧ Below w.heap.size w w' := by
  obtain ⟨now, rfl, hnow⟩ := natOf hz
  by_cases h : 200 < A.length
  · exact wheelActs_far w now v A hv h
  · exact wheelActs_yes w now v A hnow hv hA (by omega)
end Go.Proofs.Ytkbjlpdmmbldpaa
