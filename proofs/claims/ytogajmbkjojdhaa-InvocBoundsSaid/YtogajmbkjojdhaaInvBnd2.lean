/- The walk of the statement on bounds: the calls. -/
import Derived.Test.YtogajmbkjojdhaaInvBnd
set_option linter.unusedVariables false
set_option linter.unusedSimpArgs false
set_option maxRecDepth 100000
namespace Go.Proofs.Ytogajmbkjojdhaa
open Go.RowKit

theorem ivk_parts {w : World} {b off k : Nat} {x : Iv} (h : w.rangeAt b (off + k * ivR.n) (ivR.cells x)) : w.cell? ⟨b, off + k * 5, none⟩ = some (.int .i64 x.no) ∧ w.cell? ⟨b, off + k * 5 + 1, none⟩ = some (.int .i64 x.tn) ∧ w.cell? ⟨b, off + k * 5 + 2, none⟩ = some (.string x.nm) ∧ w.cell? ⟨b, off + k * 5 + 3, none⟩ = some (.int .i64 x.wt) ∧ w.cell? ⟨b, off + k * 5 + 4, none⟩ = some (.int .i64 x.ld) :=
  ⟨by simpa [ivR] using h 0 _ rfl, by simpa [ivR] using h 1 _ rfl, by simpa [ivR] using h 2 _ rfl, by simpa [ivR] using h 3 _ rfl, by simpa [ivR] using h 4 _ rfl⟩
set_option maxHeartbeats 16000000 in
theorem bounds_go (w : World) (c : Cfg) (hin : c.In w) (v : Value) (A : List Ia) (hv : Reads iaR w v A) (hA : ∀ a ∈ A, IvIn a.x) (hAl : A.length ≤ 9223372036854775807) (hf : c.Few) (hck : checkv c = 0) (hlg : largeB c A = false) :
    Calls Try.prog 3 #[.agg c.cells.toArray, v] w fun e w' => e = .returned (.bool true) ∧ Below w.heap.size w w' := by
  have hcA := CfgAt.new c w
  have hb1 : Below w.heap.size w (w.alloc (.cells c.cells.toArray 25)) := (Below.refl _ _).alloc (Nat.le_refl _) _
  have HR := Lib.hid hcA.range
  have HB1 := Lib.hid hb1
  have KN := Lib.hid (new31_any _ c (hin.below hb1) hf hck)
  have HIN := Lib.hid (hin.below hb1)
  have HV := Lib.hid (hv.below hb1)
  have HA := Lib.hid hA
  have HCK := Lib.hid hck
  obtain ⟨W1, hW1⟩ : ∃ W1, W1 = w.alloc (.cells c.cells.toArray 25) := ⟨_, rfl⟩
  rw [← hW1] at KN HR HB1 HIN HV
  have HG := Lib.hid (fun (W : World) (hb : Below w.heap.size w W) => large_any W c (hin.below hb) v A (hv.below hb) hA hAl)
  rw [hlg] at HG
  obtain ⟨hT20, hA100⟩ := large_no hlg
  have hcap := cap_of hck
  obtain ⟨av, capv, rfl⟩ := hv.form
  clear hcA hb1 hin hv hA hlg hf hck
  go_enter Try.func3, Try.ntmps3
  go_upto_region 1 with fail
  show Code.wp _ _ _ _ (w.alloc (.cells c.cells.toArray 25))
  rw [← hW1]
  clear hW1
  go_upto_region 2 with (first
    | (refine wpList_load_mid rfl 25 _ rfl w.heap.size 0 rfl c.cells _ HR.out Try.underlying25 rfl (cfgRow c) ?_)
    | (go_at_call 6; refine KN.out.mono ?_; rintro e W2 ⟨p, nm, lm, rfl, hb2, hn2, hm2⟩))
  obtain ⟨q, hq⟩ : ∃ q, q = w.heap.size := ⟨_, rfl⟩
  rw [← hq] at HR ⊢
  have HR2 := Lib.hid (below_range hb2 HR.out)
  have HS2 := Lib.hid (show InvS W1 W2 p nm lm c 0 [] from ⟨hb2, hn2, hm2, InvOk.nil HCK.out⟩)
  have KG := Lib.hid (HG.out _ (bthen' HB1.out hb2))
  clear hb2 KN HG hn2 hm2 hq
  go_upto_block 0 with (first
    | (refine wpList_load_mid rfl 25 _ rfl q 0 rfl c.cells _ HR2.out Try.underlying25 rfl (cfgRow c) ?_)
    | (go_at_call 7; refine KG.out.mono ?_; rintro e W3 ⟨rfl, hb3⟩))
  have HS3 := Lib.hid (HS2.out.below' hb3)
  clear hb3 HR2 HS2 KG
  go_wp2_with fail
  go_loopw [6] (fun i wr => ∃ (k : Nat) (last : Int) (L : List Iv), k ≤ A.length ∧ i = .int .i64 k ∧ InvS W1 wr p nm lm c last L ∧ Hid (Bnd c L) ∧ L.length ≤ k ∧ last ≤ k) (fun i _ => A.length - lenI i)
  case atStart => exact ⟨0, 0, [], by omega, rfl, HS3.out, Lib.hid (Bnd.nil HCK.out), by simp, by simp⟩
  case round =>
    clear HS3
    obtain ⟨k, last, L, hk, rfl, hS, HBN, hLk, hlk⟩ := hrel
    have HS := Lib.hid hS
    have hlow := hS.low
    clear hS
    by_cases hlt : k < A.length
    · obtain ⟨a, ha⟩ : ∃ a, A[k]? = some a := ⟨_, List.getElem?_eq_getElem hlt⟩
      have HIA := Lib.hid (HA.out a (List.mem_of_getElem? ha))
      obtain ⟨b, off, rfl, hr0⟩ := HV.out.at ha
      have HR0 := Lib.hid (below_range hlow hr0)
      clear ha hr0
      go_upto_region 8 with (first
        | (refine wpList_load_mid rfl 34 _ rfl b (off + k * iaR.n) rfl (iaR.cells a) _ HR0.out Try.underlying34 rfl (iaOk.row a) ?_)
        | (refine wpList_store_mid rfl 34 _ _ rfl wr.heap.size 0 (iaR.cells a).toArray rfl rfl (freshR_there iaOk wr a) (iaOk.row' a) (iaOk.one' a) ?_; show wpList _ _ _ _ _ (freshR iaR wr a); have hx4 := freshR_range iaOk wr a; have hb4 := freshR_below (R := iaR) wr a; generalize freshR iaR wr a = W4 at hx4 hb4 ⊢))
      obtain ⟨b7, hb7⟩ : ∃ b7, b7 = wr.heap.size := ⟨_, rfl⟩
      rw [← hb7] at hx4 ⊢
      have HS4 := Lib.hid (HS.out.below' hb4)
      have hlts := HS.out.mem.lts
      have hne7 : b7 ≠ p ∧ b7 ≠ nm ∧ b7 ≠ lm := by omega
      have HX4 := Lib.hid hx4
      have KA := Lib.hid (all_any HS4.out.mem HS4.out.ok (by omega))
      clear hb7 hlts hb4 hx4 HR0 HS
      go_upto_region 9 with (go_at_call 9; refine KA.out.mono ?_; rintro e W5 ⟨va, rfl, hb5, hO5⟩; obtain ⟨a2, c2, rfl⟩ := hO5.form)
      have HX5 := Lib.hid (below_range hb5 HX4.out)
      have HM5 := Lib.hid (show MidB W1 p nm lm c last L (.slice a2 L.length c2) L W5 from ⟨HS4.out.below' hb5, hO5.readsN ivOk fun k h1 _ h3 => by
        have := HS4.out.mem.lts
        rcases h3 with rfl | rfl | rfl <;> omega⟩)
      obtain ⟨g0, g1, g2, g3, g4⟩ := ia0_parts HX5.out
      clear hb5 hO5 KA HX4 HS4 hlow
      go_upto_block 2 with fail
      go_cut [9] (fun t wx => t = .int .i64 (stT L a) ∧ MidB W1 p nm lm c (stN c last L a) (stL c last L a) (.slice a2 L.length c2) L wx)
      case first =>
        rcases (show a.kind = 0 ∨ (¬ a.kind = 0 ∧ a.kind = 1) ∨ (¬ a.kind = 0 ∧ ¬ a.kind = 1 ∧ a.kind = 2) ∨ (¬ a.kind = 0 ∧ ¬ a.kind = 1 ∧ ¬ a.kind = 2 ∧ a.kind = 3) ∨ (¬ a.kind = 0 ∧ ¬ a.kind = 1 ∧ ¬ a.kind = 2 ∧ ¬ a.kind = 3) from by omega) with h0 | ⟨h0, h1⟩ | ⟨h0, h1, h2⟩ | ⟨h0, h1, h2, h3⟩ | ⟨h0, h1, h2, h3⟩
        · have eN := Lib.hid (show stN c last L a = openN c last L a.x.tn a.x.nm a.x.wt from by unfold stN; rw [if_pos h0])
          have eL := Lib.hid (show stL c last L a = openL c last L a.x.tn a.x.nm a.x.wt from by unfold stL; rw [if_pos h0])
          have eT := Lib.hid (show stT L a = a.x.tn from by unfold stT; rw [if_neg (by omega)])
          have e0 : (a.kind == 0) = true := by simp; omega
          have e1 : (a.kind == 1) = false := by simp; omega
          have e2 : (a.kind == 2) = false := by simp; omega
          have e3 : (a.kind == 3) = false := by simp; omega
          clear h0
          have KC := Lib.hid (open_any HM5.out.1.mem (HIN.out.below HM5.out.1.low) HM5.out.1.ok a.x.tn a.x.nm a.x.wt HIA.out.1 (by omega) (by omega))
          unfold OpenP at KC
          go_wp2_with (go_at_call 10; refine KC.out.mono ?_; rintro e W8 ⟨rfl, hu8, hm8⟩)
          go_meet
          refine ⟨by rw [eT.out], ?_⟩
          have hst := HM5.out.1.ok.stepA (show 0 ≤ c.cap by omega) a HIA.out (by omega)
          rw [eN.out, eL.out] at hst ⊢
          exact HM5.out.of hu8 hm8 hst
        · have eN := Lib.hid (show stN c last L a = last from by unfold stN; rw [if_neg (by omega)])
          have eL := Lib.hid (show stL c last L a = CloseL L a.x.no from by unfold stL; rw [if_neg (by omega)]; rw [if_pos h1])
          have eT := Lib.hid (show stT L a = ((fNo L a.x.no).getD zeroIv).tn from by unfold stT; rw [if_pos (by omega)])
          have e0 : (a.kind == 0) = false := by simp; omega
          have e1 : (a.kind == 1) = true := by simp; omega
          have e2 : (a.kind == 2) = false := by simp; omega
          have e3 : (a.kind == 3) = false := by simp; omega
          clear h0 h1
          have KGT := Lib.hid (get_any HM5.out.1.mem a.x.no)
          unfold GotI at KGT
          obtain ⟨z, hz⟩ : ∃ z, z = (fNo L a.x.no).getD zeroIv := ⟨_, rfl⟩
          rw [← hz] at KGT eT
          clear hz
          go_upto_region 17 with (first
            | (go_at_call 11; refine KGT.out.mono ?_; rintro e W6 ⟨rfl, hb6⟩)
            | (refine wpList_store_mid rfl 32 _ _ rfl W6.heap.size 0 (ivR.cells z).toArray rfl rfl (freshR_there ivOk W6 z) (ivOk.row' z) (ivOk.one' z) ?_; show wpList _ _ _ _ _ (freshR ivR W6 z); have hx7 := freshR_range ivOk W6 z; have hb7 := freshR_below (R := ivR) W6 z; generalize freshR ivR W6 z = W7 at hx7 hb7 ⊢))
          have q1 := iv_tn hx7
          have HM7 := Lib.hid (HM5.out.below' (bthen' hb6 hb7))
          obtain ⟨g0, g1, -, -, -⟩ := ia0_parts (below_range (bthen' hb6 hb7) HX5.out)
          have KC := Lib.hid (close_any HM7.out.1.mem HM7.out.1.ok a.x.no)
          clear hb6 hb7 hx7 KGT
          go_wp2_with (go_at_call 12; refine KC.out.mono ?_; rintro e W8 ⟨rfl, hu8, hm8⟩)
          go_meet
          refine ⟨by rw [eT.out], ?_⟩
          have hst := HM7.out.1.ok.stepA (show 0 ≤ c.cap by omega) a HIA.out (by omega)
          rw [eN.out, eL.out] at hst ⊢
          exact HM7.out.of hu8 hm8 hst
        · have eN := Lib.hid (show stN c last L a = last from by unfold stN; rw [if_neg (by omega)])
          have eL := Lib.hid (show stL c last L a = admitL c L a.x.no from by unfold stL; rw [if_neg (by omega)]; rw [if_neg (by omega)]; rw [if_pos h2])
          have eT := Lib.hid (show stT L a = ((fNo L a.x.no).getD zeroIv).tn from by unfold stT; rw [if_pos (by omega)])
          have e0 : (a.kind == 0) = false := by simp; omega
          have e1 : (a.kind == 1) = false := by simp; omega
          have e2 : (a.kind == 2) = true := by simp; omega
          have e3 : (a.kind == 3) = false := by simp; omega
          clear h0 h1 h2
          have KGT := Lib.hid (get_any HM5.out.1.mem a.x.no)
          unfold GotI at KGT
          obtain ⟨z, hz⟩ : ∃ z, z = (fNo L a.x.no).getD zeroIv := ⟨_, rfl⟩
          rw [← hz] at KGT eT
          clear hz
          go_upto_region 17 with (first
            | (go_at_call 11; refine KGT.out.mono ?_; rintro e W6 ⟨rfl, hb6⟩)
            | (refine wpList_store_mid rfl 32 _ _ rfl W6.heap.size 0 (ivR.cells z).toArray rfl rfl (freshR_there ivOk W6 z) (ivOk.row' z) (ivOk.one' z) ?_; show wpList _ _ _ _ _ (freshR ivR W6 z); have hx7 := freshR_range ivOk W6 z; have hb7 := freshR_below (R := ivR) W6 z; generalize freshR ivR W6 z = W7 at hx7 hb7 ⊢))
          have q1 := iv_tn hx7
          have HM7 := Lib.hid (HM5.out.below' (bthen' hb6 hb7))
          obtain ⟨g0, g1, -, -, -⟩ := ia0_parts (below_range (bthen' hb6 hb7) HX5.out)
          have KC := Lib.hid (admit_any HM7.out.1.mem (HIN.out.below HM7.out.1.low) HM7.out.1.ok a.x.no (by omega))
          clear hb6 hb7 hx7 KGT
          go_wp2_with (go_at_call 13; refine KC.out.mono ?_; rintro e W8 ⟨rfl, hu8, hm8⟩)
          go_meet
          refine ⟨by rw [eT.out], ?_⟩
          have hst := HM7.out.1.ok.stepA (show 0 ≤ c.cap by omega) a HIA.out (by omega)
          rw [eN.out, eL.out] at hst ⊢
          exact HM7.out.of hu8 hm8 hst
        · have eN := Lib.hid (show stN c last L a = last from by unfold stN; rw [if_neg (by omega)])
          have eL := Lib.hid (show stL c last L a = leaveL L a.x.no from by unfold stL; rw [if_neg (by omega)]; rw [if_neg (by omega)]; rw [if_neg (by omega)]; rw [if_pos h3])
          have eT := Lib.hid (show stT L a = ((fNo L a.x.no).getD zeroIv).tn from by unfold stT; rw [if_pos (by omega)])
          have e0 : (a.kind == 0) = false := by simp; omega
          have e1 : (a.kind == 1) = false := by simp; omega
          have e2 : (a.kind == 2) = false := by simp; omega
          have e3 : (a.kind == 3) = true := by simp; omega
          clear h0 h1 h2 h3
          have KGT := Lib.hid (get_any HM5.out.1.mem a.x.no)
          unfold GotI at KGT
          obtain ⟨z, hz⟩ : ∃ z, z = (fNo L a.x.no).getD zeroIv := ⟨_, rfl⟩
          rw [← hz] at KGT eT
          clear hz
          go_upto_region 17 with (first
            | (go_at_call 11; refine KGT.out.mono ?_; rintro e W6 ⟨rfl, hb6⟩)
            | (refine wpList_store_mid rfl 32 _ _ rfl W6.heap.size 0 (ivR.cells z).toArray rfl rfl (freshR_there ivOk W6 z) (ivOk.row' z) (ivOk.one' z) ?_; show wpList _ _ _ _ _ (freshR ivR W6 z); have hx7 := freshR_range ivOk W6 z; have hb7 := freshR_below (R := ivR) W6 z; generalize freshR ivR W6 z = W7 at hx7 hb7 ⊢))
          have q1 := iv_tn hx7
          have HM7 := Lib.hid (HM5.out.below' (bthen' hb6 hb7))
          obtain ⟨g0, g1, -, -, -⟩ := ia0_parts (below_range (bthen' hb6 hb7) HX5.out)
          have KC := Lib.hid (leave_any HM7.out.1.mem HM7.out.1.ok a.x.no)
          clear hb6 hb7 hx7 KGT
          go_wp2_with (go_at_call 14; refine KC.out.mono ?_; rintro e W8 ⟨rfl, hu8, hm8⟩)
          go_meet
          refine ⟨by rw [eT.out], ?_⟩
          have hst := HM7.out.1.ok.stepA (show 0 ≤ c.cap by omega) a HIA.out (by omega)
          rw [eN.out, eL.out] at hst ⊢
          exact HM7.out.of hu8 hm8 hst
        · have eN := Lib.hid (show stN c last L a = last from by unfold stN; rw [if_neg h0])
          have eL := Lib.hid (show stL c last L a = L from by unfold stL; rw [if_neg h0]; rw [if_neg h1]; rw [if_neg h2]; rw [if_neg h3])
          have eT := Lib.hid (show stT L a = a.x.tn from by unfold stT; rw [if_neg (by omega)])
          have e0 : (a.kind == 0) = false := by simp; omega
          have e1 : (a.kind == 1) = false := by simp; omega
          have e2 : (a.kind == 2) = false := by simp; omega
          have e3 : (a.kind == 3) = false := by simp; omega
          clear h0 h1 h2 h3
          go_wp2_with fail
          go_meet
          refine ⟨by rw [eT.out], ?_⟩
          rw [eN.out, eL.out]
          exact HM5.out
      case rest =>
        have HOK := Lib.hid HM5.out.1.ok
        have HST := Lib.hid (fun (x : Iv) (h : x ∈ L) (h2 : x.tn ≠ stT L a) => st_mem (c := c) HOK.out a h h2)
        have HB2 := Lib.hid (HBN.out.step HOK.out a)
        have hl2 : (stL c last L a).length ≤ k + 1 := by have := st_len (c := c) (last := last) (L := L) a; omega
        have hn2 : stN c last L a ≤ k + 1 := by have := st_last (c := c) (last := last) (L := L) a; omega
        clear HM5 g0 g1 g2 g3 g4 HX5 HOK HBN hlk
        obtain ⟨ht9, hM6⟩ := hcut
        obtain ⟨T9, hT9⟩ : ∃ T9, T9 = stT L a := ⟨_, rfl⟩
        obtain ⟨L2, hL2⟩ : ∃ L2, L2 = stL c last L a := ⟨_, rfl⟩
        obtain ⟨last2, hN2⟩ : ∃ n, n = stN c last L a := ⟨_, rfl⟩
        rw [← hT9] at ht9 HST
        rw [← hL2] at hM6 HST HB2 hl2
        rw [← hN2] at hM6 hn2
        subst ht9
        clear hT9 hL2 hN2 HIA
        have HM6 := Lib.hid hM6
        have KA := Lib.hid (all_any hM6.1.mem hM6.1.ok (by omega))
        clear hM6
        go_upto_block 3 with (go_at_call 9; refine KA.out.mono ?_; rintro e W7 ⟨va, rfl, hb7, hO7⟩; obtain ⟨a7, c7, rfl⟩ := hO7.form)
        have HM7 := Lib.hid (HM6.out.below' hb7)
        have HO7 := Lib.hid (hO7.lts ivOk)
        have HR7 := Lib.hid (below_range HM7.out.1.low HR.out)
        clear KA hb7 hO7 HM6
        go_cut [] (fun wx => MidB W1 p nm lm c last2 L2 (.slice a2 L.length c2) L wx)
        case first =>
          go_wp2_with fail
          go_loopw [13] (fun i wr => ∃ j : Nat, j ≤ L2.length ∧ i = .int .i64 j ∧ Below W7.heap.size W7 wr) (fun i _ => L2.length - lenI i)
          case atStart => exact ⟨0, by omega, rfl, Below.refl _ _⟩
          case round =>
            obtain ⟨j, hj, rfl, hWy⟩ := hrel
            by_cases hjl : j < L2.length
            · obtain ⟨y, hy⟩ : ∃ y, L2[j]? = some y := ⟨_, List.getElem?_eq_getElem hjl⟩
              have hyL := List.mem_of_getElem? hy
              obtain ⟨by1, oy, rfl, hry⟩ := (HO7.out.below hWy).at hy
              obtain ⟨y0, y1, y2, y3, y4⟩ := ivk_parts hry
              obtain ⟨ht0, ht1⟩ := HM7.out.1.ok.tens y hyL
              obtain ⟨hd0, hd1⟩ := HM7.out.1.ok.loads y hyL
              have hbq := HB2.out y.tn
              obtain ⟨n, hn⟩ : ∃ n : Nat, y.tn = (n : Int) := ⟨y.tn.toNat, by omega⟩
              obtain ⟨T0, hT0⟩ : ∃ T0, c.T[n]? = some T0 := ⟨_, List.getElem?_eq_getElem (by omega)⟩
              have hq : quota c y.tn = T0.q := by unfold quota; rw [hn, Int.toNat_natCast, hT0]
              have HMy := Lib.hid (HM7.out.below' hWy)
              have htr := (HIN.out.below HMy.out.1.low).t
              obtain ⟨at', capt, hvt⟩ := htr.form
              obtain ⟨c0, -, -, -, c4, -⟩ := nineteen (below_range hWy HR7.out)
              rw [hvt] at htr c0
              obtain ⟨bt, ot, hct, hrt⟩ := htr.at hT0
              subst hct
              have hqt := ten_q hrt
              have KL := Lib.hid (fun (W : World) (hb : Below wr.heap.size wr W) => load_any (HMy.out.1.mem.below hb) HMy.out.1.ok y.tn (by omega))
              have hkl : n < c.T.length := (List.getElem?_eq_some_iff.1 hT0).1
              rw [hq] at hbq
              rw [hn] at y1 KL hbq
              have q1 : decide (y.ld < 0) = false := by simp; omega
              have q2 : decide (y.ld > c.cap) = false := by simp; omega
              have q2' : decide (c.cap < y.ld) = false := by simp; omega
              have q3 : decide ((n : Int) < 0) = false := by simp
              have q4 : decide ((n : Int) ≥ (c.T.length : Int)) = false := by simp; omega
              have q4' : decide ((c.T.length : Int) ≤ (n : Int)) = false := by simp; omega
              have q4n : decide (c.T.length ≤ n) = false := by simp; omega
              have q4m : decide (n ≥ c.T.length) = false := by simp; omega
              have q5 : decide (loadT L2 (n : Int) > T0.q) = false := by simp; omega
              have q5' : decide (T0.q < loadT L2 (n : Int)) = false := by simp; omega
              have d0 := fun (z : Later wr) => z.cell c0
              have d4 := fun (z : Later wr) => z.cell c4
              have d1 := fun (z : Later wr) => z.cell y1
              have d5 := fun (z : Later wr) => z.cell y4
              have dq := fun (z : Later wr) => z.cell hqt
              have HWy := Lib.hid hWy
              clear hy hry hyL y0 y1 y2 y3 y4 c0 c4 hqt htr hvt hT0 hrt hq hn ht0 ht1 hd0 hd1 hbq hWy
              go_upto_region 27 with fail
              (try simp only [Act.put])
              refine wp_region_later (by kernel_rfl) (by kernel_rfl) (Below.refl _ _) ?_
              repeat (first
                | go_big_quiet_skip
                | (go_big_quiet_want; (go_big_quiet_op; first | go_big_quiet_on | go_big_quiet_call ((go_at_call 15; exact Calls.later (KL.out _ (Later.h _)))))))
              refine wpQuiet_nil ?_
              rintro ⟨Wz, hbz⟩
              dsimp only
              clear d0 d4 d1 d5 dq
              have HWz := Lib.hid (bthen' HWy.out hbz)
              clear hbz HMy
              go_wp2_with fail
              go_roundw
              case rel => exact ⟨j + 1, by omega, by go_num, HWz.out⟩
              case measure => simp [lenI]; omega
            · go_wp2_with fail
              go_meet
              exact HM7.out.below' hWy
        case rest =>
          clear HM7 HO7 HR7
          have HM8 := Lib.hid hcut
          clear hcut
          go_wp2_with fail
          go_loopw [14] (fun i wr => ∃ j : Nat, j ≤ L.length ∧ i = .int .i64 j ∧ MidB W1 p nm lm c last2 L2 (.slice a2 L.length c2) L wr) (fun i _ => L.length - lenI i)
          case atStart => exact ⟨0, by omega, rfl, HM8.out⟩
          case round =>
            clear HM8
            obtain ⟨j, hj, rfl, hM⟩ := hrel
            have HM := Lib.hid hM
            by_cases hjl : j < L.length
            · obtain ⟨x, hx⟩ : ∃ x, L[j]? = some x := ⟨_, List.getElem?_eq_getElem hjl⟩
              have hxL := List.mem_of_getElem? hx
              obtain ⟨bx, ox, ex, hrx⟩ := hM.2.reads.at hx
              have HRX := Lib.hid hrx
              obtain ⟨y0, y1, -, -, -⟩ := ivk_parts hrx
              have KGT := Lib.hid (get_any hM.1.mem x.no)
              unfold GotI at KGT
              obtain ⟨z, hz⟩ : ∃ z, z = (fNo L2 x.no).getD zeroIv := ⟨_, rfl⟩
              obtain ⟨o, ho⟩ : ∃ o, o = (fNo L2 x.no).isSome := ⟨_, rfl⟩
              rw [← hz, ← ho] at KGT
              have HZ := Lib.hid (fun (h : x.tn ≠ T9) => show z = x ∧ o = true from by
                have := fNo_of hM.1.ok.asc (HST.out x hxL h)
                rw [hz, ho, this]
                exact ⟨rfl, rfl⟩)
              subst ex
              clear hx hxL hrx hz ho hM
              go_upto_region 33 with (first
                | (go_at_call 11; refine KGT.out.mono ?_; rintro e W9 ⟨rfl, hb9⟩)
                | (refine wpList_store_mid rfl 32 _ _ rfl W9.heap.size 0 (ivR.cells z).toArray rfl rfl (freshR_there ivOk W9 z) (ivOk.row' z) (ivOk.one' z) ?_; show wpList _ _ _ _ _ (freshR ivR W9 z); have hx10 := freshR_range ivOk W9 z; have hb10 := freshR_below (R := ivR) W9 z; generalize freshR ivR W9 z = W10 at hx10 hb10 ⊢))
              have hb19 := bthen' hb9 hb10
              have HM10 := Lib.hid (HM.out.below' hb19)
              have HRX10 := Lib.hid (below_range hb19 HRX.out)
              have hy1 := below_cell hb19 y1
              have d1 := fun (z : Later W10) => z.cell hy1
              clear KGT y0 y1 hb9 hb10 HM HRX hb19 hy1
              by_cases htn : x.tn = T9
              · have q1 : (x.tn != T9) = false := by simp [htn]
                clear htn HZ hx10
                (try simp only [Act.put])
                refine wp_region_later (by kernel_rfl) (by kernel_rfl) (Below.refl _ _) ?_
                repeat (first
                  | go_big_quiet_skip
                  | (go_big_quiet_want; (go_big_quiet_op; go_big_quiet_on)))
                refine wpQuiet_nil ?_
                rintro ⟨W11, hb11⟩
                dsimp only
                clear d1
                have HM11 := Lib.hid (HM10.out.below' hb11)
                clear hb11 HM10
                go_wp2_with fail
                go_roundw
                case rel => exact ⟨j + 1, by omega, by go_num, HM11.out⟩
                case measure => simp [lenI]; omega
              · obtain ⟨rfl, rfl⟩ := HZ.out htn
                have q1 : (z.tn != T9) = true := by simp [htn]
                obtain ⟨b15, hb15⟩ : ∃ b, b = W9.heap.size := ⟨_, rfl⟩
                rw [← hb15] at hx10 ⊢
                have RC := Lib.hid (fun (w' : World) (h : ∃ z : Later W10, w' = z.w) => (show w'.rangeAt b15 0 (ivR.cells z) from by obtain ⟨zz, rfl⟩ := h; exact below_range zz.h hx10))
                have RC2 := Lib.hid (fun (w' : World) (h : ∃ z : Later W10, w' = z.w) => (show w'.rangeAt bx (ox + j * ivR.n) (ivR.cells z) from by obtain ⟨zz, rfl⟩ := h; exact below_range zz.h HRX10.out))
                have hsame : ∀ w : World, (Op.equalIn (9998 + 2) 32 (.agg (ivR.cells z).toArray) (.agg (ivR.cells z).toArray)).run Try.prog w = .ok (decide (z = z)) w := fun w => iv_eq 9998 z z w
                have hguard := ivGuard
                clear htn HZ hx10 hb15 HRX10
                (try simp only [Act.put])
                refine wp_region_later (by kernel_rfl) (by kernel_rfl) (Below.refl _ _) ?_
                repeat (first
                  | go_big_quiet_skip
                  | (go_big_quiet_want; first
                    | (refine quiet_load_mid 32 _ rfl b15 0 rfl (ivR.cells z) _ RC.out Try.underlying32 rfl (ivOk.row z) ?_; simp only [Act.put, List.setIfInBounds_toArray, List.set_cons_succ, List.set_cons_zero]; go_big_quiet_on)
                    | (refine quiet_load_mid 32 _ rfl bx (ox + j * ivR.n) rfl (ivR.cells z) _ RC2.out Try.underlying32 rfl (ivOk.row z) ?_; simp only [Act.put, List.setIfInBounds_toArray, List.set_cons_succ, List.set_cons_zero]; go_big_quiet_on)
                    | (go_big_quiet_op; go_big_quiet_on)))
                refine wpQuiet_nil ?_
                rintro ⟨W11, hb11⟩
                dsimp only
                clear d1 hsame hguard RC RC2
                have HM11 := Lib.hid (HM10.out.below' hb11)
                clear hb11 HM10
                go_wp2_with fail
                go_roundw
                case rel => exact ⟨j + 1, by omega, by go_num, HM11.out⟩
                case measure => simp [lenI]; omega
            · clear HM
              go_wp2_with fail
              go_roundw
              case rel => exact ⟨k + 1, last2, L2, by omega, by go_num, hM.1, HB2, hl2, hn2⟩
              case measure => simp [lenI]; omega
    · clear HS
      go_wp2_with (go_at_call 8; refine (live31_any _).mono ?_; rintro e W4 ⟨rfl, hb4⟩)
      go_ret
      exact ⟨rfl, bthen' (bthen' HB1.out hlow) hb4⟩
end Go.Proofs.Ytogajmbkjojdhaa
