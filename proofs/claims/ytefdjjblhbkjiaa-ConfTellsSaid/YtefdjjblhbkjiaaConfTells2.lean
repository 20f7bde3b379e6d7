/- A tenant's number: the program's, and the reference's. -/
import Derived.Test.YtefdjjblhbkjiaaConfChecks
set_option linter.unusedVariables false
namespace Go.Proofs.Ytefdjjblhbkjiaa
open Go.RowKit

def ixF (nm : ByteArray) : List Ten → Nat → Int
  | [], _ => -1
  | t :: r, i => if t.name = nm then (i : Int) else ixF nm r (i + 1)
theorem ixF_range (nm : ByteArray) : ∀ (T : List Ten) (i : Nat), ixF nm T i = -1 ∨ (0 ≤ ixF nm T i ∧ ixF nm T i < (i + T.length : Nat))
  | [], i => .inl rfl
  | t :: r, i => by
    unfold ixF
    by_cases h : t.name = nm
    · rw [if_pos h]; right; simp; omega
    · rw [if_neg h]
      rcases ixF_range nm r (i + 1) with h2 | ⟨h2, h3⟩
      · exact .inl h2
      · right; simp at h3 ⊢; omega
def IxRest (nm : ByteArray) (T : List Ten) (k : Nat) : Prop := ixF nm T 0 = ixF nm (T.drop k) k
theorem IxRest.start (nm : ByteArray) (T : List Ten) : IxRest nm T 0 := rfl
theorem IxRest.step {nm : ByteArray} {T : List Ten} {k : Nat} {x : Ten} (h : IxRest nm T k) (hx : T[k]? = some x) (h1 : ¬ x.name = nm) : IxRest nm T (k + 1) := by
  unfold IxRest at *
  rw [h, drop_cons hx, ixF, if_neg h1]
theorem IxRest.hit {nm : ByteArray} {T : List Ten} {k : Nat} {x : Ten} (h : IxRest nm T k) (hx : T[k]? = some x) (h1 : x.name = nm) : ixF nm T 0 = k := by
  unfold IxRest at *
  rw [h, drop_cons hx, ixF, if_pos h1]
theorem IxRest.done {nm : ByteArray} {T : List Ten} (h : IxRest nm T T.length) : ixF nm T 0 = -1 := by
  unfold IxRest at h
  rw [h]; simp [ixF]

theorem ten1_any (w : World) (t : Ten) (g : Nat) (nm : ByteArray) (hg : w.cell? ⟨g, 0, none⟩ = some (.string nm)) :
    Calls Try.prog 28 #[.agg (tenR.cells t).toArray, .pointer (some ⟨g, 0, none⟩)] w fun e w' => e = .returned (.bool (t.name.toList == nm.toList)) ∧ Below w.heap.size w w' := by
  have hx := range_arr (R := tenR) t (heap_alloc_new w (.cells (tenR.cells t).toArray 50))
  obtain ⟨c0, c1, c2⟩ := three_cells hx
  have hb : Below w.heap.size w (w.alloc (.cells (tenR.cells t).toArray 50)) := (Below.refl _ _).alloc (Nat.le_refl _) _
  have g0 := below_cell hb hg
  clear c1 c2 hx hg
  go_enter Try.func28, Try.ntmps28
  go_wp2_with fail
  go_ret
  exact ⟨rfl, hb⟩

set_option maxRecDepth 100000 in
set_option maxHeartbeats 2000000 in
theorem indexTen_any (w : World) (v : Value) (T : List Ten) (hv : Reads tenR w v T) (hbig : T.length ≤ 1000000) (g : Nat) (nm : ByteArray) (hg : w.cell? ⟨g, 0, none⟩ = some (.string nm)) :
    Calls Try.prog 27 #[v, .func (.func 28) #[] #[.pointer (some ⟨g, 0, none⟩)]] w fun e w' => e = .returned (.int .i64 (ixF nm T 0)) ∧ Below w.heap.size w w' := by
  obtain ⟨av, capv, rfl⟩ := hv.form
  have HV := Lib.hid hv
  clear hv
  have HG := Lib.hid hg
  clear hg
  go_enter Try.func27, Try.ntmps27
  go_wp2_with fail
  go_loopw [8] (fun i wr => ∃ k : Nat, k ≤ T.length ∧ i = .int .i64 k ∧ Below w.heap.size w wr ∧ IxRest nm T k) (fun i _ => T.length - (intOf i).toNat)
  case atStart => exact ⟨0, by omega, rfl, Below.refl _ _, IxRest.start nm T⟩
  case round =>
    obtain ⟨k, hk, rfl, hb, hno⟩ := hrel
    have HN := Lib.hid hno
    clear hno
    by_cases hlt : k < T.length
    · obtain ⟨y, hy⟩ : ∃ y, T[k]? = some y := ⟨_, List.getElem?_eq_getElem hlt⟩
      obtain ⟨b, off, rfl, hr⟩ := (HV.out.below hb).at hy
      have HG2 := Lib.hid (below_cell hb HG.out)
      have K1 := Lib.hid (ten1_any wr y g nm HG2.out)
      by_cases ho : y.name = nm
      · have HM := Lib.hid (HN.out.hit hy ho)
        rw [show (y.name.toList == nm.toList) = true from by rw [beq_iff_eq, bytesInj]; exact ho] at K1
        clear HN hy ho
        go_wp2_with (first
          | (refine wpList_load_mid rfl 50 _ rfl b (off + k * tenR.n) rfl (tenR.cells y) _ hr Try.underlying50 rfl (tenOk.row y) ?_)
          | (go_at_call 28; refine K1.out.mono ?_; rintro e W2 ⟨rfl, hb2⟩))
        go_ret
        exact ⟨by rw [HM.out]; rfl, bthen' hb hb2⟩
      · have HM := Lib.hid (HN.out.step hy ho)
        rw [show (y.name.toList == nm.toList) = false from by rw [beq_eq_false_iff_ne, Ne, bytesInj]; exact ho] at K1
        clear HN hy ho
        go_wp2_with (first
          | (refine wpList_load_mid rfl 50 _ rfl b (off + k * tenR.n) rfl (tenR.cells y) _ hr Try.underlying50 rfl (tenOk.row y) ?_)
          | (go_at_call 28; refine K1.out.mono ?_; rintro e W2 ⟨rfl, hb2⟩))
        go_roundw
        case rel => exact ⟨k + 1, by omega, by go_num, bthen' hb hb2, HM.out⟩
        case measure => simp [intOf]; omega
    · obtain rfl : k = T.length := by omega
      have HM := Lib.hid (HN.out.done)
      clear HN
      go_wp2_with fail
      go_ret
      exact ⟨by rw [HM.out]; rfl, hb⟩

def tenRef (c : Cfg) (nm : ByteArray) : Int := if checkv c = 0 then ixF nm c.T 0 else -1
theorem tenRef_no {c : Cfg} {nm : ByteArray} (h : ¬ checkv c = 0) : tenRef c nm = -1 := by unfold tenRef; rw [if_neg h]
theorem tenRef_yes {c : Cfg} {nm : ByteArray} (h : checkv c = 0) : tenRef c nm = ixF nm c.T 0 := by unfold tenRef; rw [if_pos h]

set_option maxRecDepth 100000 in
set_option maxHeartbeats 2000000 in
theorem confTenant_any (w : World) (c : Cfg) (hc : c.In w) (hf : c.Few) (nm : ByteArray) : Calls Try.prog 9 #[.agg c.cells.toArray, .string nm] w fun e w' => e = .returned (.tuple #[.int .i64 (max (tenRef c nm) 0), .bool (decide (0 ≤ tenRef c nm))]) ∧ Below w.heap.size w w' := by
  have hA := CfgAt.new c w
  have hb1 : Below w.heap.size w (w.alloc (.cells c.cells.toArray 25)) := (Below.refl _ _).alloc (Nat.le_refl _) _
  obtain ⟨W1, hW1⟩ : ∃ W1, W1 = w.alloc (.cells c.cells.toArray 25) := ⟨_, rfl⟩
  have hs1 : W1.heap.size = w.heap.size + 1 := by rw [hW1]; simp
  rw [← hW1] at hA hb1
  have hb2 : Below w.heap.size w (W1.alloc (.cells #[.string nm] 9)) := hb1.alloc (by omega) _
  have hA2 := hA.below (show Below W1.heap.size W1 (W1.alloc (.cells #[.string nm] 9)) from (Below.refl _ _).alloc (Nat.le_refl _) _)
  have hg2 : (W1.alloc (.cells #[.string nm] 9)).cell? ⟨w.heap.size + 1, 0, none⟩ = some (.string nm) := by
    rw [← hs1]; exact cell_of_row _ _ 0 _ 9 (0, 0) (heap_alloc_new _ _)
  rw [hW1] at hb2 hA2 hg2
  clear hA hb1 hW1 hs1
  have hc2 := hc.below hb2
  have hr := hA2.range
  obtain ⟨c0, -⟩ := nineteen hr
  have K0 := Lib.hid (indexTen_any _ c.tv c.T hc2.t hf.t (w.heap.size + 1) nm hg2)
  have KC := fun (W : World) (h : Below ((w.alloc (.cells c.cells.toArray 25)).alloc (.cells #[.string nm] 9)).heap.size ((w.alloc (.cells c.cells.toArray 25)).alloc (.cells #[.string nm] 9)) W) => check_any W c (hc2.below h) hf
  have HR := Lib.hid (fun (W : World) (h : Below ((w.alloc (.cells c.cells.toArray 25)).alloc (.cells #[.string nm] 9)).heap.size ((w.alloc (.cells c.cells.toArray 25)).alloc (.cells #[.string nm] 9)) W) => below_range h hr)
  have hmf : ∀ (fn : Fn) (first cap : Array Value) (w : World), (Instr.makeFunc fn first cap).run Try.prog w = .ok (.func fn first cap) w := fun _ _ _ _ => rfl
  obtain ⟨i, hi⟩ : ∃ i, i = ixF nm c.T 0 := ⟨_, rfl⟩
  have hrange := ixF_range nm c.T 0
  rw [← hi] at K0 hrange
  clear hr hg2 hA2
  by_cases h : checkv c = 0
  · have HE := tenRef_yes (nm := nm) h
    rw [← hi] at HE
    rw [h] at KC
    have KC := Lib.hid KC
    by_cases hi0 : 0 ≤ i
    · have HE1 := Lib.hid (show max (tenRef c nm) 0 = i from by rw [HE]; omega)
      have HE2 := Lib.hid (show decide (0 ≤ tenRef c nm) = true from by rw [HE]; exact decide_eq_true hi0)
      clear h hi hc hc2 HE
      go_enter Try.func9, Try.ntmps9
      go_wp2_with (first
        | (refine wl_load_mid rfl 25 _ rfl w.heap.size 0 rfl c.cells _ (HR.out _ hb3) Try.underlying25 rfl (cfgRow c) ?_)
        | (go_at_call 7; refine (KC.out _ hb3).mono ?_; rintro e W4 ⟨rfl, hb4⟩)
        | (go_at_call 27; refine K0.out.mono ?_; rintro e W3 ⟨rfl, hb3⟩))
      all_goals try omega
      go_ret2
      exact ⟨by rw [HE1.out, HE2.out]; rfl, bthen' (bthen' hb2 hb3) hb4⟩
    · have HE1 := Lib.hid (show max (tenRef c nm) 0 = 0 from by rw [HE]; omega)
      have HE2 := Lib.hid (show decide (0 ≤ tenRef c nm) = false from by rw [HE]; exact decide_eq_false hi0)
      clear h hi hc hc2 HE
      go_enter Try.func9, Try.ntmps9
      go_wp2_with (first
        | (refine wl_load_mid rfl 25 _ rfl w.heap.size 0 rfl c.cells _ (HR.out _ hb3) Try.underlying25 rfl (cfgRow c) ?_)
        | (go_at_call 7; refine (KC.out _ hb3).mono ?_; rintro e W4 ⟨rfl, hb4⟩)
        | (go_at_call 27; refine K0.out.mono ?_; rintro e W3 ⟨rfl, hb3⟩))
      all_goals try omega
      go_ret2
      exact ⟨by rw [HE1.out, HE2.out]; rfl, bthen' (bthen' hb2 hb3) hb4⟩
  · have HE := tenRef_no (nm := nm) h
    have KC := Lib.hid KC
    · have HE1 := Lib.hid (show max (tenRef c nm) 0 = 0 from by rw [HE]; omega)
      have HE2 := Lib.hid (show decide (0 ≤ tenRef c nm) = false from by rw [HE]; rfl)
      have hnz : ¬ (checkv c = 0) := h
      clear h hi hc hc2 HE hrange
      go_enter Try.func9, Try.ntmps9
      go_wp2_with (first
        | (refine wl_load_mid rfl 25 _ rfl w.heap.size 0 rfl c.cells _ (HR.out _ hb3) Try.underlying25 rfl (cfgRow c) ?_)
        | (go_at_call 7; refine (KC.out _ hb3).mono ?_; rintro e W4 ⟨rfl, hb4⟩)
        | (go_at_call 27; refine K0.out.mono ?_; rintro e W3 ⟨rfl, hb3⟩))
      all_goals try omega
      go_ret2
      exact ⟨by rw [HE1.out, HE2.out]; rfl, bthen' (bthen' hb2 hb3) hb4⟩

set_option maxRecDepth 100000 in
set_option maxHeartbeats 2000000 in
theorem refTenant_any (w : World) (c : Cfg) (hc : c.In w) (hf : c.Few) (nm : ByteArray) : Calls Try.prog 10 #[.agg c.cells.toArray, .string nm] w fun e w' => e = .returned (.int .i64 (tenRef c nm)) ∧ Below w.heap.size w w' := by
  have hA := CfgAt.new c w
  have hb1 : Below w.heap.size w (w.alloc (.cells c.cells.toArray 25)) := (Below.refl _ _).alloc (Nat.le_refl _) _
  have hc1 := hc.below hb1
  obtain ⟨av, capv, hvt⟩ := hc1.t.form
  have hr := hA.range
  obtain ⟨c0, -⟩ := nineteen hr
  have KC := right_any _ c hc1 hf
  have hf2 := hf.t
  by_cases h : checkv c = 0
  · have HE := Lib.hid (tenRef_yes (nm := nm) h)
    rw [show (checkv c == 0) = true from by rw [h]; rfl] at KC
    have KC := Lib.hid KC
    have HV := Lib.hid hc1.t
    rw [hvt] at c0 HV
    clear h hc hc1 hA
    go_enter Try.func10, Try.ntmps10
    go_wp2_with (first
      | (refine wl_load_mid rfl 25 _ rfl w.heap.size 0 rfl c.cells _ hr Try.underlying25 rfl (cfgRow c) ?_)
      | (go_at_call 29; refine KC.out.mono ?_; rintro e W2 ⟨rfl, hb2⟩))
    have d0 := below_cell hb2 c0
    have HV2 := Lib.hid (HV.out.below hb2)
    clear c0 HV hr hvt
    go_loop [5] (fun i => ∃ k : Nat, k ≤ c.T.length ∧ i = .int .i64 k ∧ IxRest nm c.T k) (fun i => c.T.length - (intOf i).toNat)
    case atStart => exact ⟨0, by omega, rfl, IxRest.start nm c.T⟩
    case round =>
      obtain ⟨k, hk, rfl, hno⟩ := hrel
      have HN := Lib.hid hno
      clear hno
      by_cases hlt : k < c.T.length
      · obtain ⟨y, hy⟩ : ∃ y, c.T[k]? = some y := ⟨_, List.getElem?_eq_getElem hlt⟩
        obtain ⟨b, off, rfl, hr⟩ := HV2.out.at hy
        have m0 : W2.cell? ⟨b, off + k * 3, none⟩ = some (.string y.name) := first_cell hr
        by_cases ho : y.name = nm
        · have HM := Lib.hid (HN.out.hit hy ho)
          have hxyb : (y.name.toList == nm.toList) = true := by rw [beq_iff_eq, bytesInj]; exact ho
          clear HN hy ho hr
          go_wp2_with fail
          go_ret
          exact ⟨by rw [HE.out, HM.out]; rfl, bthen' hb1 hb2⟩
        · have HM := Lib.hid (HN.out.step hy ho)
          have hxyb : (y.name.toList == nm.toList) = false := by rw [beq_eq_false_iff_ne, Ne, bytesInj]; exact ho
          clear HN hy ho hr
          go_wp2_with fail
          go_round
          case rel => exact ⟨k + 1, by omega, by go_num, HM.out⟩
          case measure => simp [intOf]; omega
      · obtain rfl : k = c.T.length := by omega
        have HM := Lib.hid (HN.out.done)
        clear HN
        go_wp2_with fail
        go_ret
        exact ⟨by rw [HE.out, HM.out]; rfl, bthen' hb1 hb2⟩
  · have HE := Lib.hid (tenRef_no (nm := nm) h)
    rw [show (checkv c == 0) = false from by simpa using h] at KC
    have KC := Lib.hid KC
    clear h hc hc1 hA
    go_enter Try.func10, Try.ntmps10
    go_wp2_with (first
      | (refine wl_load_mid rfl 25 _ rfl w.heap.size 0 rfl c.cells _ hr Try.underlying25 rfl (cfgRow c) ?_)
      | (go_at_call 29; refine KC.out.mono ?_; rintro e W2 ⟨rfl, hb2⟩))
    go_ret
    exact ⟨by rw [HE.out]; rfl, bthen' hb1 hb2⟩

end Go.Proofs.Ytefdjjblhbkjiaa
