/- The statement on calls: one behind the other. -/
import Derived.Test.YtogajmbkjojdhaaInvActs
set_option linter.unusedVariables false
set_option linter.unusedSimpArgs false
set_option maxRecDepth 100000
namespace Go.Proofs.Ytogajmbkjojdhaa
open Go.RowKit

set_option maxHeartbeats 16000000 in
theorem acts_right (w : World) (c : Cfg) (hin : c.In w) (v : Value) (A : List Ia) (hv : Reads iaR w v A) (hA : ∀ a ∈ A, IvIn a.x) (hAl : A.length ≤ 9223372036854775807) (hlg : largeB c A = false) (hck : checkv c = 0) :
    Calls Try.prog 4 #[.agg c.cells.toArray, v] w fun e w' => e = .returned (.bool true) ∧ Below w.heap.size w w' := by
  have hcA := CfgAt.new c w
  have hb1 : Below w.heap.size w (w.alloc (.cells c.cells.toArray 25)) := (Below.refl _ _).alloc (Nat.le_refl _) _
  have HR := Lib.hid hcA.range
  have HB1 := Lib.hid hb1
  have hf := few_of hlg
  have hA100 := large31_no hlg
  have hcap := cap_of hck
  have HCK := Lib.hid hck
  have HIN := Lib.hid (hin.below hb1)
  have HV := Lib.hid (hv.below hb1)
  have HA := Lib.hid hA
  have KG := Lib.hid (large_any _ c (hin.below hb1) v A (hv.below hb1) hA hAl)
  rw [hlg] at KG
  have KN := Lib.hid (fun (W : World) (hb : Below w.heap.size w W) => new31_any W c (hin.below hb) hf hck)
  have KR := Lib.hid (fun (W : World) (hb : Below w.heap.size w W) => right31_any W c (hin.below hb) hf)
  have hckb : (checkv c == 0) = true := by simp [hck]
  rw [hckb] at KR
  obtain ⟨W1, hW1⟩ : ∃ W1, W1 = w.alloc (.cells c.cells.toArray 25) := ⟨_, rfl⟩
  rw [← hW1] at KG HR HB1 HIN HV
  obtain ⟨av, capv, rfl⟩ := hv.form
  clear hcA hb1 hin hv hA hlg hck hf hckb
  go_enter Try.func4, Try.ntmps4
  go_upto_region 1 with fail
  show Code.wp _ _ _ _ (w.alloc (.cells c.cells.toArray 25))
  rw [← hW1]
  clear hW1
  go_upto_region 7 with (first
    | (refine wpList_load_mid rfl 25 _ rfl w.heap.size 0 rfl c.cells _ (below_range hb3 (below_range hb2 HR.out)) Try.underlying25 rfl (cfgRow c) ?_)
    | (refine wpList_load_mid rfl 25 _ rfl w.heap.size 0 rfl c.cells _ (below_range hb2 HR.out) Try.underlying25 rfl (cfgRow c) ?_)
    | (refine wpList_load_mid rfl 25 _ rfl w.heap.size 0 rfl c.cells _ HR.out Try.underlying25 rfl (cfgRow c) ?_)
    | (go_at_call 16; refine (KR.out _ (bthen' (bthen' HB1.out hb2) hb3)).mono ?_; rintro e W4 ⟨rfl, hb4⟩)
    | (go_at_call 6; refine (KN.out _ (bthen' HB1.out hb2)).mono ?_; rintro e W3 ⟨p, nm, lm, rfl, hb3, hn3, hm3⟩)
    | (go_at_call 7; refine KG.out.mono ?_; rintro e W2 ⟨rfl, hb2⟩))
  have HR4 := Lib.hid (below_range hb4 (below_range hb3 (below_range hb2 HR.out)))
  have hs2 := hb2.size
  have hS4 : InvS W1 W4 p nm lm c 0 [] := ⟨bthen' (bthen' hb2 hb3) hb4, ⟨by omega, by omega, by omega⟩, hm3.below hb4, InvOk.nil HCK.out⟩
  have hcV := Cel.new W4 53 (refCells c 0 (.slice none 0 0))
  have hb5 : Below W4.heap.size W4 (W4.alloc (.cells (refCells c 0 (.slice none 0 0)).toArray 53)) := (Below.refl _ _).alloc (Nat.le_refl _) _
  have hs5 : (W4.alloc (.cells (refCells c 0 (.slice none 0 0)).toArray 53)).heap.size = W4.heap.size + 1 := by simp
  obtain ⟨r, hr⟩ : ∃ r, r = W4.heap.size := ⟨_, rfl⟩
  have hlts := hS4.mem.lts
  have hlow := hS4.low.size
  have hH : HfI W1 (W4.alloc (.cells (refCells c 0 (.slice none 0 0)).toArray 53)) p nm lm r c 0 [] 0 [] :=
    ⟨hS4.below' hb5, ⟨⟨_, by rw [hr]; exact hcV, .inl ⟨rfl, none, 0, rfl⟩⟩, .inl rfl, fun k hk => by
      rw [hs5]
      rcases hk with rfl | rfl | rfl | rfl <;> omega⟩, by omega, ⟨by omega, by omega, by omega⟩⟩
  have HH := Lib.hid hH
  clear hb2 hb3 hb4 hn3 hm3 KG KN KR HR hS4 hcV hb5 hs5 hs2 hlts hlow hH
  go_upto_region 8 with (first
    | (refine wpList_load_mid rfl 25 _ rfl w.heap.size 0 rfl c.cells _ HR4.out Try.underlying25 rfl (cfgRow c) ?_)
    | (refine wl_built rfl 53 _ rfl [(0, .agg c.cells.toArray)] (by simp [Act.eval, Act.put]) _ (built_v c) ?_))
  show Code.wp _ _ _ _ (W4.alloc (.cells (refCells c 0 (.slice none 0 0)).toArray 53))
  rw [← hr]
  generalize W4.alloc (.cells (refCells c 0 (.slice none 0 0)).toArray 53) = W5 at HH ⊢
  clear hr HR4
  go_wp2_with fail
  go_loopw [9] (fun i wr => ∃ (k : Nat) (last : Int) (L : List Iv), k ≤ A.length ∧ i = .int .i64 k ∧ HfI W1 wr p nm lm r c last L last L ∧ L.length ≤ k ∧ last ≤ k) (fun i _ => A.length - lenI i)
  case atStart => exact ⟨0, 0, [], by omega, rfl, HH.out, by simp, by simp⟩
  case round =>
    clear HH
    obtain ⟨k, last, L, hk, rfl, hH, hLk, hlk⟩ := hrel
    have HH := Lib.hid hH
    have hlow := hH.s.low
    clear hH
    by_cases hlt : k < A.length
    · obtain ⟨a, ha⟩ : ∃ a, A[k]? = some a := ⟨_, List.getElem?_eq_getElem hlt⟩
      have HIA := Lib.hid (HA.out a (List.mem_of_getElem? ha))
      obtain ⟨b, off, rfl, hr0⟩ := HV.out.at ha
      have HR0 := Lib.hid hr0
      have hlowd : Below W1.heap.size W1 wr.drew := bthen' hlow (Below.refl _ _).drew
      have HLD := Lib.hid hlowd
      have HHD := Lib.hid (HH.out.below' (Below.refl _ _).drew)
      have hne : Nonempty (Mix.InS (fun z => Below W1.heap.size W1 z)) := ⟨⟨W1, Below.refl _ _⟩⟩
      have RA := Lib.hid (fun (w' : World) (h : ∃ z : Mix.InS (fun z => Below W1.heap.size W1 z), w' = z.w) => (show w'.rangeAt b (off + k * iaR.n) (iaR.cells a) from by obtain ⟨zz, rfl⟩ := h; exact below_range zz.h HR0.out))
      clear ha hr0 HH hlow hlowd
      go_upto_region 11 with fail
      (try simp only [Act.put])
      refine Mix.wp_region_mix [([0, 1, 2, 3, 4, 5], 6), ([7, 8, 9, 10, 11, 12, 13, 14, 15, 16, 17], 18)] [19, 20] (fun w' => ∃ x : Mix.InS (fun z => Below W1.heap.size W1 z), w' = x.w) (by kernel_rfl) (by kernel_rfl) (Mix.inS_mk HLD.out) ?_
      generalize wr.drew = W6 at HLD HHD ⊢
      have KD := Lib.hid (does31_any HHD.out HIN.out (by omega) a HIA.out (by omega) (by omega))
      refine Mix.stages_cons ?_
      simp only [Mix.pickL, List.getElem?_cons_zero, List.getElem?_cons_succ]
      repeat (first
        | go_big_quiet_skip
        | (go_big_quiet_want; first
          | (refine quiet_load_mid 34 _ rfl b (off + k * iaR.n) rfl (iaR.cells a) _ RA.out Try.underlying34 rfl (iaOk.row a) ?_; simp only [Act.put, List.setIfInBounds_toArray, List.set_cons_succ, List.set_cons_zero]; go_big_quiet_on)
          | (go_big_quiet_op; go_big_quiet_on)))
      refine wpQuiet_nil ?_
      go_wp2_with (go_at_call 21; refine KD.out.mono ?_; rintro e W7 ⟨rfl, hH7⟩)
      have hl2 := sd_len (c := c) (last := last) (L := L) a
      have hn2 := sd_last (c := c) (last := last) (L := L) a
      obtain ⟨L2, hL2⟩ : ∃ L2, L2 = sdL c last L a := ⟨_, rfl⟩
      obtain ⟨last2, hN2⟩ : ∃ n, n = sdN c last L a := ⟨_, rfl⟩
      rw [← hL2] at hH7 hl2
      rw [← hN2] at hH7 hn2
      have HH7 := Lib.hid hH7
      obtain ⟨vr, hcv, hrv⟩ := hH7.ref.mem
      have hlow7 := hH7.s.low
      have HRV := Lib.hid hrv.reads
      have HCV := Lib.hid (show Below W1.heap.size W1 W7 ∧ W7.rangeAt r 0 (refCells c last2 vr) from ⟨hlow7, hcv.range⟩)
      clear hL2 hN2 hH7 KD RA hne hcv hrv hlow7 HLD HHD
      have hne : Nonempty (Mix.InS (fun z => Below W1.heap.size W1 z ∧ z.rangeAt r 0 (refCells c last2 vr))) := ⟨⟨W7, HCV.out⟩⟩
      have RX := Lib.hid (fun (w' : World) (h : ∃ z : Mix.InS (fun z => Below W1.heap.size W1 z ∧ z.rangeAt r 0 (refCells c last2 vr)), w' = z.w) => (show w'.rangeAt b (off + k * iaR.n + 1) (ivR.cells a.x) from by obtain ⟨zz, rfl⟩ := h; exact ia_row (below_range zz.h.1 HR0.out)))
      have RV := Lib.hid (fun (w' : World) (h : ∃ z : Mix.InS (fun z => Below W1.heap.size W1 z ∧ z.rangeAt r 0 (refCells c last2 vr)), w' = z.w) => (show w'.rangeAt r 0 (refCells c last2 vr) from by obtain ⟨zz, rfl⟩ := h; exact zz.h.2))
      refine Mix.onward_sub (S' := fun z => Below W1.heap.size W1 z ∧ z.rangeAt r 0 (refCells c last2 vr)) (fun x h => h.1) HCV.out ?_
      have KS := Lib.hid (same31_any HH7.out vr HRV.out a.x (by omega))
      refine Mix.stages_cons ?_
      simp only [Mix.pickL, List.getElem?_cons_zero, List.getElem?_cons_succ]
      repeat (first
        | go_big_quiet_skip
        | (go_big_quiet_want; first
          | (refine quiet_load_mid 53 _ rfl r 0 rfl (refCells c last2 vr) _ RV.out Try.underlying53 rfl (vRow c last2 _) ?_; simp only [Act.put, List.setIfInBounds_toArray, List.set_cons_succ, List.set_cons_zero]; go_big_quiet_on)
          | (refine quiet_load_mid 32 _ rfl b (off + k * iaR.n + 1) rfl (ivR.cells a.x) _ RX.out Try.underlying32 rfl (ivOk.row a.x) ?_; simp only [Act.put, List.setIfInBounds_toArray, List.set_cons_succ, List.set_cons_zero]; go_big_quiet_on)
          | (go_big_quiet_op; go_big_quiet_on)))
      refine wpQuiet_nil ?_
      go_wp2_with (go_at_call 22; refine KS.out.mono ?_; rintro e W8 ⟨rfl, hb8⟩)
      have HH8 := Lib.hid (HH7.out.below' hb8)
      have hc8 : Below W1.heap.size W1 W8 ∧ W8.rangeAt r 0 (refCells c last2 vr) := ⟨bthen' HCV.out.1 hb8, below_range hb8 HCV.out.2⟩
      clear KS hb8 HH7
      refine Mix.onward_in hc8 ?_
      refine Mix.stages_nil ?_
      simp only [Mix.pickL, List.getElem?_cons_zero, List.getElem?_cons_succ]
      repeat (first
        | go_big_quiet_skip
        | (go_big_quiet_want; (go_big_quiet_op; go_big_quiet_on)))
      refine wpQuiet_nil ?_
      clear RX RV hne hc8 HCV HRV
      go_wp2_with fail
      go_roundw
      case rel => exact ⟨k + 1, last2, L2, by omega, by go_num, HH8.out, by omega, by omega⟩
      case measure => simp [lenI]; omega
    · clear HH
      go_wp2_with (go_at_call 8; refine (live31_any _).mono ?_; rintro e W9 ⟨rfl, hb9⟩)
      go_ret
      exact ⟨rfl, bthen' (bthen' HB1.out hlow) hb9⟩
theorem invocActs_of (w : World) (c : Cfg) (hin : c.In w) (v : Value) (A : List Ia) (hv : Reads iaR w v A) (hA : ∀ a ∈ A, IvIn a.x) (hAl : A.length ≤ 9223372036854775807) :
    Calls Try.prog 4 #[.agg c.cells.toArray, v] w fun e w' => e = .returned (.bool true) ∧ Below w.heap.size w w' := by
  cases hlg : largeB c A with
  | true => exact acts_large w c hin v A hv hA hAl hlg
  | false =>
    by_cases hck : checkv c = 0
    · exact acts_right w c hin v A hv hA hAl hlg hck
    · exact acts_wrong w c hin v A hv hA hAl hlg hck
end Go.Proofs.Ytogajmbkjojdhaa
