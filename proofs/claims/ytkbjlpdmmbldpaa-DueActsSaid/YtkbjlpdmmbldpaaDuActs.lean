/- The walk of the statement on calls (printed by genduacts.py). -/
import Derived.Test.YtkbjlpdmmbldpaaDuDoes
set_option linter.unusedVariables false
set_option linter.unusedSimpArgs false
set_option maxRecDepth 100000
namespace Go.Proofs.Ytkbjlpdmmbldpaa
open Go.RowKit

theorem bothD_start {w W1 : World} {d now : Nat} (hb1 : Below w.heap.size w W1) (hT : DueT (fun k => w.heap.size ≤ k ∧ k < W1.heap.size) W1 d now []) :
    BothD w (W1.alloc (.cells #[.int .u64 (now : Int), .slice none 0 0] 63)) d W1.heap.size now [] := by
  have hb2 : Below W1.heap.size W1 (W1.alloc (.cells #[.int .u64 (now : Int), .slice none 0 0] 63)) := (Below.refl _ _).alloc (Nat.le_refl _) _
  have hs := hb1.size
  refine ⟨_, (fun k => k = W1.heap.size), bthen' hb1 hb2, fun k hk => hk.1, fun k hk => by omega, fun k hk h9 => by omega, hT.below hb2, ⟨⟨_, Cel.new W1 63 [.int .u64 (now : Int), .slice none 0 0], rfl, Owns.nil _ _ _, fun k hk => by cases hk⟩, fun k hk => by simp; omega⟩⟩
theorem mat_a {T : Nat → Prop} {w : World} {d now : Nat} {M : List Tm} (h : DueT T w d now M) (k i : Int) (hp : plcT M k i = -1) :
    Calls Try.prog 34 #[.pointer (some ⟨d, 0, none⟩), .int .i64 k, .int .i64 i] w fun e w' => e = .returned (.tuple #[.int .u64 0, .bool false]) ∧ Below w.heap.size w w' :=
  (mat h k i).mono (by rintro e w' ⟨rfl, hb⟩; exact ⟨by rw [at_none hp, hp]; rfl, hb⟩)
theorem mat_b {T : Nat → Prop} {w : World} {d now : Nat} {M : List Tm} (h : DueT T w d now M) (k i : Int) {n : Nat} {y : Tm} (hp : plcT M k i = (n : Int)) (hy : M[n]? = some y) :
    Calls Try.prog 34 #[.pointer (some ⟨d, 0, none⟩), .int .i64 k, .int .i64 i] w fun e w' => e = .returned (.tuple #[.int .u64 (y.t : Int), .bool true]) ∧ Below w.heap.size w w' :=
  (mat h k i).mono (by rintro e w' ⟨rfl, hb⟩; exact ⟨by rw [at_some hp hy, hp]; simp, hb⟩)
set_option maxHeartbeats 2000000 in
theorem dueActs_far (w : World) (now : Int) (v : Value) (A : List Dc) (hv : Reads dcR w v A) (h : 200 < A.length) :
    Calls Try.prog 7 #[.int .u64 now, v] w fun e w' => e = .returned (.bool true) ∧ Below w.heap.size w w' := by
  obtain ⟨av, capv, rfl⟩ := hv.form
  clear hv
  have KV := Lib.hid (live09_any w)
  go_enter Try.func7, Try.ntmps7
  go_wp2_with (go_at_call 25; refine KV.out.mono ?_; rintro e W2 ⟨rfl, hb2⟩)
  go_ret
  exact ⟨rfl, hb2⟩
set_option maxHeartbeats 16000000 in
theorem dueActs_yes (w : World) (now0 : Nat) (v : Value) (A : List Dc) (hnow : now0 < 18446744073709551616) (hv : Reads dcR w v A) (hA : ∀ a ∈ A, a.t < 18446744073709551616) (c1 : A.length ≤ 200) :
    Calls Try.prog 7 #[.int .u64 (now0 : Int), v] w fun e w' => e = .returned (.bool true) ∧ Below w.heap.size w w' := by
  obtain ⟨av, capv, rfl⟩ := hv.form
  have HV := Lib.hid hv
  have HA := Lib.hid hA
  have KN0 := Lib.hid (mnew w now0 hnow)
  clear hv hA hnow
  go_enter Try.func7, Try.ntmps7
  go_upto_block 0 with (go_at_call 26; refine KN0.out.mono ?_; rintro e W1 ⟨d, rfl, hb1, hT1⟩)
  have HS := bothD_start hb1 hT1
  obtain ⟨r, hre⟩ : ∃ r, r = W1.heap.size := ⟨_, rfl⟩
  rw [← hre] at HS ⊢
  generalize W1.alloc (.cells #[.int .u64 (now0 : Int), .slice none 0 0] 63) = W2 at HS ⊢
  clear hb1 hT1 KN0 hre
  go_wp2_with fail
  go_loopw [7] (fun i wr => ∃ (k now : Nat) (M : List Tm), k ≤ A.length ∧ M.length ≤ k ∧ i = .int .i64 k ∧ BothD w wr d r now M) (fun i _ => A.length - (intOf i).toNat)
  case atStart => exact ⟨0, now0, [], by omega, by simp, rfl, HS⟩
  case round =>
    clear HS
    obtain ⟨k, now1, M1, hk, hM1, rfl, hB⟩ := hrel
    have HB := Lib.hid hB
    have hbw := hB.low
    clear hB
    by_cases hlt : k < A.length
    · obtain ⟨a, ha⟩ : ∃ a, A[k]? = some a := ⟨_, List.getElem?_eq_getElem hlt⟩
      have hta := HA.out a (List.mem_of_getElem? ha)
      obtain ⟨b, off, rfl, hr0⟩ := HV.out.at ha
      have HR0 := Lib.hid hr0
      have hr2 := below_range hbw hr0
      have KD := Lib.hid (does_any HB.out a hta (by omega))
      clear ha HB hr0
      go_upto_if 37 with (first
        | (refine wpList_load_mid rfl 66 _ rfl b (off + k * dcR.n) rfl (dcR.cells a) _ hr2 Try.underlying66 rfl (dcOk.row a) ?_)
        | (go_at_call 33; refine KD.out.mono ?_; rintro e W2 ⟨rfl, now, M, hM, hB2⟩))
      have hM2 : M.length ≤ k + 1 := by omega
      have HB2 := Lib.hid hB2
      have hr3 := below_range hB2.low HR0.out
      obtain ⟨-, k1, k2, -⟩ := dc_parts hr3
      have k1' : W2.cell? ⟨b, off + k * 4 + 1, none⟩ = some (.int .i64 a.k) := k1
      have k2' : W2.cell? ⟨b, off + k * 4 + 2, none⟩ = some (.int .i64 a.id) := k2
      obtain ⟨T, G, hH⟩ := hB2
      have hT := hH.2.2.2.2.1
      obtain ⟨ra, rc, hcel, hrd⟩ := hH.2.2.2.2.2.parts
      obtain ⟨m, bb, hn⟩ := next_is M
      have KF := Lib.hid (fun (W : World) (hb : Below W2.heap.size W2 W) => rdfind_any W now _ M a.k a.id (hrd.below hb) (by omega))
      have KN := Lib.hid (fun (W : World) (hb : Below W2.heap.size W2 W) => mnext (hT.below hb) (by omega) m bb hn)
      have KR := Lib.hid (fun (W : World) (hb : Below W2.heap.size W2 W) => (rdnext_any W now _ M (hrd.below hb) (by omega)).mono (hn.q W))
      have HT := Lib.hid hT
      have HCr := Lib.hid (fun (W : World) (hb : Below W2.heap.size W2 W) => (hcel.below hb).range)
      have HC := Lib.hid hcel
      have HRD := Lib.hid hrd
      clear hM hr2 hr3 hbw KD hH hT hcel hrd hn k1 k2 HR0 hM1
      have d1 := fun (z : Later W2) => z.cell k1'
      have d2 := fun (z : Later W2) => z.cell k2'
      rcases plc_val (M := M) (k := a.k) (i := a.id) with ⟨hp, -⟩ | ⟨n, y, hp, hy, -⟩
      · skip
        have KA := Lib.hid (fun (W : World) (hb : Below W2.heap.size W2 W) => mat_a (HT.out.below hb) a.k a.id hp)
        rw [hp] at KF
        clear hp
        have hne : Nonempty (Mix.InS (fun z => Below W2.heap.size W2 z)) := ⟨⟨W2, Below.refl _ _⟩⟩
        have d1 := fun (z : Mix.InS (fun z => Below W2.heap.size W2 z)) => below_cell z.h k1'
        have d2 := fun (z : Mix.InS (fun z => Below W2.heap.size W2 z)) => below_cell z.h k2'
        have RC := Lib.hid (fun (w' : World) (hx : ∃ x : Mix.InS (fun z => Below W2.heap.size W2 z), w' = x.w) => (show w'.rangeAt r 0 [.int .u64 (now : Int), .slice ra M.length rc] from by obtain ⟨z, rfl⟩ := hx; exact HCr.out _ z.h))
        clear k1' k2'
        go_upto_region 10 with fail
        have hb3 : Below W2.heap.size W2 W2.drew := (Below.refl _ _).drew
        have HBD := Lib.hid hb3
        refine Mix.wp_region_mix [([0, 1, 2, 3, 4, 5, 6, 7, 8, 9, 10], 11)] [12, 13, 14, 15, 16] (fun w' => ∃ x : Mix.InS (fun z => Below W2.heap.size W2 z), w' = x.w) (by kernel_rfl) (by kernel_rfl) (Mix.inS_mk HBD.out) ?_
        generalize W2.drew = W3 at hb3 HBD ⊢
        refine Mix.stages_cons ?_
        simp only [Mix.pickL, List.getElem?_cons_zero, List.getElem?_cons_succ]
        repeat (first
          | go_big_quiet_skip
          | (go_big_quiet_want; (go_big_quiet_op; go_big_quiet_on)))
        refine wpQuiet_nil ?_
        go_wp2_with (go_at_call 34; refine (KA.out _ hb3).mono ?_; rintro e W4 ⟨rfl, hb4⟩)
        replace hb4 := bthen' hb3 hb4
        refine Mix.onward_in hb4 ?_
        refine Mix.stages_nil ?_
        simp only [Mix.pickL, List.getElem?_cons_zero, List.getElem?_cons_succ]
        repeat (first
          | go_big_quiet_skip
          | (go_big_quiet_want; (go_big_quiet_op; go_big_quiet_on)))
        refine wpQuiet_nil ?_
        clear hb3 HBD KA
        go_upto_region 11 with fail
        (try simp only [Act.put])
        have hdr := bthen' hb4 (Below.refl W4.heap.size W4).drew
        have HBD := Lib.hid hdr
        refine Mix.wp_region_mix [([0, 1, 2, 3, 4, 5, 6, 7, 8, 9, 10, 11, 12], 13)] [14] (fun w' => ∃ x : Mix.InS (fun z => Below W2.heap.size W2 z), w' = x.w) (by kernel_rfl) (by kernel_rfl) (Mix.inS_mk HBD.out) ?_
        generalize W4.drew = W5 at hdr HBD ⊢
        refine Mix.stages_cons ?_
        simp only [Mix.pickL, List.getElem?_cons_zero, List.getElem?_cons_succ]
        repeat (first
          | go_big_quiet_skip
          | (go_big_quiet_want; first
            | (refine quiet_load_mid 63 _ rfl r 0 rfl [.int .u64 (now : Int), .slice ra M.length rc] _ RC.out Try.underlying63 rfl dRow ?_; simp only [Act.put, List.setIfInBounds_toArray, List.set_cons_succ, List.set_cons_zero]; go_big_quiet_on)
            | (go_big_quiet_op; go_big_quiet_on)))
        refine wpQuiet_nil ?_
        go_wp2_with (go_at_call 35; refine (KF.out _ hdr).mono ?_; rintro e W6 ⟨rfl, hb6⟩)
        replace hb6 := bthen' hdr hb6
        refine Mix.onward_in hb6 ?_
        refine Mix.stages_nil ?_
        simp only [Mix.pickL, List.getElem?_cons_zero, List.getElem?_cons_succ]
        repeat (first
          | go_big_quiet_skip
          | (go_big_quiet_want; (go_big_quiet_op; go_big_quiet_on)))
        refine wpQuiet_nil ?_
        clear hb4 hdr HBD KF d1 d2 RC
        go_upto_region 13 with (go_at_call 30; refine (KN.out _ hb6).mono ?_; rintro e W7 ⟨rfl, hb7⟩)
        replace hb7 := bthen' hb6 hb7
        have rr7 := HCr.out _ hb7
        clear hb6 KN
        go_upto_region 14 with (first
          | (refine wpList_load_mid rfl 63 _ rfl r 0 rfl [.int .u64 (now : Int), .slice ra M.length rc] _ rr7 Try.underlying63 rfl dRow ?_)
          | (go_at_call 36; refine (KR.out _ hb7).mono ?_; rintro e W8 ⟨rfl, hb8⟩))
        replace hb8 := bthen' hb7 hb8
        clear hb7 rr7 KR
        (try simp only [Act.put])
        have k0r := HC.out.get (i := 0) rfl
        have k1r := HC.out.get (i := 1) rfl
        have e0 := fun (z : Mix.InS (fun z => Below W2.heap.size W2 z)) => below_cell z.h k0r
        have e1 := fun (z : Mix.InS (fun z => Below W2.heap.size W2 z)) => below_cell z.h k1r
        clear k0r k1r
        have q1 : ((m : Int) != (m : Int)) = false := by simp
        have q2 : (bb != bb) = false := by simp
        have q3 : ((now : Int) != (now : Int)) = false := by simp
        have q4 : ((M.length : Int) != (M.length : Int)) = false := by simp
        have hdr := bthen' hb8 (Below.refl W8.heap.size W8).drew
        have HBD := Lib.hid hdr
        refine Mix.wp_region_mix [([0, 1, 2, 3, 4, 5, 6, 7, 8, 9, 10, 11, 12, 13, 14, 15, 16, 17, 18, 19, 20, 21, 22, 23, 24, 25, 26, 27, 28, 29, 30, 31, 32, 33, 34, 35, 36, 37, 38, 40, 41, 42, 43, 44], 39), ([45, 46, 47, 48, 50, 51, 52, 53], 49)] [54, 55] (fun w' => ∃ x : Mix.InS (fun z => Below W2.heap.size W2 z), w' = x.w) (by kernel_rfl) (by kernel_rfl) (Mix.inS_mk HBD.out) ?_
        generalize W8.drew = W9 at hdr HBD ⊢
        have KE := Lib.hid (mlen (HT.out.below hdr) (by omega))
        have KW := Lib.hid (mnow (HT.out.below hdr))
        refine Mix.stages_cons ?_
        simp only [Mix.pickL, List.getElem?_cons_zero, List.getElem?_cons_succ]
        repeat (first
          | go_big_quiet_skip
          | (go_big_quiet_want; (go_big_quiet_op; go_big_quiet_on)))
        refine wpQuiet_nil ?_
        go_wp2_with (go_at_call 28; refine KE.out.mono ?_; rintro e w' ⟨rfl, rfl⟩)
        refine Mix.onward_in hdr ?_
        refine Mix.stages_cons ?_
        simp only [Mix.pickL, List.getElem?_cons_zero, List.getElem?_cons_succ]
        repeat (first
          | go_big_quiet_skip
          | (go_big_quiet_want; (go_big_quiet_op; go_big_quiet_on)))
        refine wpQuiet_nil ?_
        go_wp2_with (go_at_call 37; refine KW.out.mono ?_; rintro e w' ⟨rfl, rfl⟩)
        refine Mix.onward_in hdr ?_
        refine Mix.stages_nil ?_
        simp only [Mix.pickL, List.getElem?_cons_zero, List.getElem?_cons_succ]
        repeat (first
          | go_big_quiet_skip
          | (go_big_quiet_want; (go_big_quiet_op; go_big_quiet_on)))
        refine wpQuiet_nil ?_
        clear e0 e1 q1 q2 q3 q4 hne
        have HBF := Lib.hid (HB2.out.below' hdr)
        clear hdr HBD HB2 hb8
        go_wp2_with fail
        go_roundw
        case rel => exact ⟨k + 1, now, M, by omega, hM2, by go_num, HBF.out⟩
        case measure => simp [intOf]; omega
      · skip
        have KA := Lib.hid (fun (W : World) (hb : Below W2.heap.size W2 W) => mat_b (HT.out.below hb) a.k a.id hp hy)
        rw [hp] at KF
        have HY := Lib.hid hy
        clear hy
        clear hp
        have hne : Nonempty (Mix.InS (fun z => Below W2.heap.size W2 z)) := ⟨⟨W2, Below.refl _ _⟩⟩
        have d1 := fun (z : Mix.InS (fun z => Below W2.heap.size W2 z)) => below_cell z.h k1'
        have d2 := fun (z : Mix.InS (fun z => Below W2.heap.size W2 z)) => below_cell z.h k2'
        have RC := Lib.hid (fun (w' : World) (hx : ∃ x : Mix.InS (fun z => Below W2.heap.size W2 z), w' = x.w) => (show w'.rangeAt r 0 [.int .u64 (now : Int), .slice ra M.length rc] from by obtain ⟨z, rfl⟩ := hx; exact HCr.out _ z.h))
        clear k1' k2'
        go_upto_region 10 with fail
        have hb3 : Below W2.heap.size W2 W2.drew := (Below.refl _ _).drew
        have HBD := Lib.hid hb3
        refine Mix.wp_region_mix [([0, 1, 2, 3, 4, 5, 6, 7, 8, 9, 10], 11)] [12, 13, 14, 15, 16] (fun w' => ∃ x : Mix.InS (fun z => Below W2.heap.size W2 z), w' = x.w) (by kernel_rfl) (by kernel_rfl) (Mix.inS_mk HBD.out) ?_
        generalize W2.drew = W3 at hb3 HBD ⊢
        refine Mix.stages_cons ?_
        simp only [Mix.pickL, List.getElem?_cons_zero, List.getElem?_cons_succ]
        repeat (first
          | go_big_quiet_skip
          | (go_big_quiet_want; (go_big_quiet_op; go_big_quiet_on)))
        refine wpQuiet_nil ?_
        go_wp2_with (go_at_call 34; refine (KA.out _ hb3).mono ?_; rintro e W4 ⟨rfl, hb4⟩)
        replace hb4 := bthen' hb3 hb4
        refine Mix.onward_in hb4 ?_
        refine Mix.stages_nil ?_
        simp only [Mix.pickL, List.getElem?_cons_zero, List.getElem?_cons_succ]
        repeat (first
          | go_big_quiet_skip
          | (go_big_quiet_want; (go_big_quiet_op; go_big_quiet_on)))
        refine wpQuiet_nil ?_
        clear hb3 HBD KA
        go_upto_region 11 with fail
        (try simp only [Act.put])
        have hdr := bthen' hb4 (Below.refl W4.heap.size W4).drew
        have HBD := Lib.hid hdr
        refine Mix.wp_region_mix [([0, 1, 2, 3, 4, 5, 6, 7, 8, 9, 10, 11, 12], 13)] [14] (fun w' => ∃ x : Mix.InS (fun z => Below W2.heap.size W2 z), w' = x.w) (by kernel_rfl) (by kernel_rfl) (Mix.inS_mk HBD.out) ?_
        generalize W4.drew = W5 at hdr HBD ⊢
        refine Mix.stages_cons ?_
        simp only [Mix.pickL, List.getElem?_cons_zero, List.getElem?_cons_succ]
        repeat (first
          | go_big_quiet_skip
          | (go_big_quiet_want; first
            | (refine quiet_load_mid 63 _ rfl r 0 rfl [.int .u64 (now : Int), .slice ra M.length rc] _ RC.out Try.underlying63 rfl dRow ?_; simp only [Act.put, List.setIfInBounds_toArray, List.set_cons_succ, List.set_cons_zero]; go_big_quiet_on)
            | (go_big_quiet_op; go_big_quiet_on)))
        refine wpQuiet_nil ?_
        go_wp2_with (go_at_call 35; refine (KF.out _ hdr).mono ?_; rintro e W6 ⟨rfl, hb6⟩)
        replace hb6 := bthen' hdr hb6
        refine Mix.onward_in hb6 ?_
        refine Mix.stages_nil ?_
        simp only [Mix.pickL, List.getElem?_cons_zero, List.getElem?_cons_succ]
        repeat (first
          | go_big_quiet_skip
          | (go_big_quiet_want; (go_big_quiet_op; go_big_quiet_on)))
        refine wpQuiet_nil ?_
        clear hb4 hdr HBD KF d1 d2 RC
        go_upto_region 13 with (go_at_call 30; refine (KN.out _ hb6).mono ?_; rintro e W7 ⟨rfl, hb7⟩)
        replace hb7 := bthen' hb6 hb7
        have rr7 := HCr.out _ hb7
        clear hb6 KN
        go_upto_region 14 with (first
          | (refine wpList_load_mid rfl 63 _ rfl r 0 rfl [.int .u64 (now : Int), .slice ra M.length rc] _ rr7 Try.underlying63 rfl dRow ?_)
          | (go_at_call 36; refine (KR.out _ hb7).mono ?_; rintro e W8 ⟨rfl, hb8⟩))
        replace hb8 := bthen' hb7 hb8
        clear hb7 rr7 KR
        (try simp only [Act.put])
        have k0r := HC.out.get (i := 0) rfl
        have k1r := HC.out.get (i := 1) rfl
        have e0 := fun (z : Mix.InS (fun z => Below W2.heap.size W2 z)) => below_cell z.h k0r
        have e1 := fun (z : Mix.InS (fun z => Below W2.heap.size W2 z)) => below_cell z.h k1r
        clear k0r k1r
        obtain ⟨b9, o9, e9, r9⟩ := HRD.out.at HY.out
        have e9' : ra = some ⟨b9, o9, none⟩ := by simpa using e9
        subst e9'
        have k9 := tim_t r9
        have e2 := fun (z : Mix.InS (fun z => Below W2.heap.size W2 z)) => below_cell z.h k9
        have hnl := (List.getElem?_eq_some_iff.1 HY.out).1
        have q5 : ((y.t : Int) != (y.t : Int)) = false := by simp
        have q6 : decide ((n : Int) ≥ 0) = true := by simp
        have q7 : decide ((0 : Int) ≤ (n : Int)) = true := by simp
        clear e9 r9 k9
        have q1 : ((m : Int) != (m : Int)) = false := by simp
        have q2 : (bb != bb) = false := by simp
        have q3 : ((now : Int) != (now : Int)) = false := by simp
        have q4 : ((M.length : Int) != (M.length : Int)) = false := by simp
        have hdr := bthen' hb8 (Below.refl W8.heap.size W8).drew
        have HBD := Lib.hid hdr
        refine Mix.wp_region_mix [([0, 1, 2, 3, 4, 5, 6, 7, 8, 9, 10, 11, 12, 13, 14, 15, 16, 17, 18, 19, 20, 21, 22, 23, 24, 25, 26, 27, 28, 29, 30, 31, 32, 33, 34, 35, 36, 37, 38, 40, 41, 42, 43, 44], 39), ([45, 46, 47, 48, 50, 51, 52, 53], 49)] [54, 55] (fun w' => ∃ x : Mix.InS (fun z => Below W2.heap.size W2 z), w' = x.w) (by kernel_rfl) (by kernel_rfl) (Mix.inS_mk HBD.out) ?_
        generalize W8.drew = W9 at hdr HBD ⊢
        have KE := Lib.hid (mlen (HT.out.below hdr) (by omega))
        have KW := Lib.hid (mnow (HT.out.below hdr))
        refine Mix.stages_cons ?_
        simp only [Mix.pickL, List.getElem?_cons_zero, List.getElem?_cons_succ]
        repeat (first
          | go_big_quiet_skip
          | (go_big_quiet_want; (go_big_quiet_op; go_big_quiet_on)))
        refine wpQuiet_nil ?_
        go_wp2_with (go_at_call 28; refine KE.out.mono ?_; rintro e w' ⟨rfl, rfl⟩)
        refine Mix.onward_in hdr ?_
        refine Mix.stages_cons ?_
        simp only [Mix.pickL, List.getElem?_cons_zero, List.getElem?_cons_succ]
        repeat (first
          | go_big_quiet_skip
          | (go_big_quiet_want; (go_big_quiet_op; go_big_quiet_on)))
        refine wpQuiet_nil ?_
        go_wp2_with (go_at_call 37; refine KW.out.mono ?_; rintro e w' ⟨rfl, rfl⟩)
        refine Mix.onward_in hdr ?_
        refine Mix.stages_nil ?_
        simp only [Mix.pickL, List.getElem?_cons_zero, List.getElem?_cons_succ]
        repeat (first
          | go_big_quiet_skip
          | (go_big_quiet_want; (go_big_quiet_op; go_big_quiet_on)))
        refine wpQuiet_nil ?_
        clear e0 e1 q1 q2 q3 q4 hne
        have HBF := Lib.hid (HB2.out.below' hdr)
        clear hdr HBD HB2 hb8
        go_wp2_with fail
        go_roundw
        case rel => exact ⟨k + 1, now, M, by omega, hM2, by go_num, HBF.out⟩
        case measure => simp [intOf]; omega
    · have hlo := HB.out.low
      go_wp2_with (go_at_call 25; refine (live09_any _).mono ?_; rintro e W8 ⟨rfl, hb8⟩)
      go_ret
      exact ⟨rfl, bthen' hlo hb8⟩
theorem dueActs_of (w : World) (z : Int) (v : Value) (A : List Dc) (hz : (Lit.int .u64 z).wf = true) (hv : Reads dcR w v A) (hA : ∀ a ∈ A, a.t < 18446744073709551616) :
    Calls Try.prog 7 #[.int .u64 z, v] w fun e w' => e = .returned (.bool true) ∧ Below w.heap.size w w' := by
  obtain ⟨now, rfl, hnow⟩ := natOf hz
  by_cases h : 200 < A.length
  · exact dueActs_far w now v A hv h
  · exact dueActs_yes w now v A hnow hv hA (by omega)
end Go.Proofs.Ytkbjlpdmmbldpaa
