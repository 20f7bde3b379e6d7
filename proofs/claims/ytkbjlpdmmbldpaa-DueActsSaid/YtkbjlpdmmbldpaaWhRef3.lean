/- The document's wheel: the first one due. -/
import Derived.Test.YtkbjlpdmmbldpaaWhRef2
set_option linter.unusedVariables false
set_option linter.unusedSimpArgs false
set_option maxRecDepth 100000
namespace Go.Proofs.Ytkbjlpdmmbldpaa
open Go.RowKit

def ltB (x y : Tm) : Bool := decide (x.t < y.t) || (decide (x.t = y.t) && decide (x.id < y.id))
structure FirstAt (L : List Tm) (k f : Nat) : Prop where
  lt : f < k
  ex : ∃ y, L[f]? = some y ∧ ∀ z ∈ L.take k, ¬ ltT z y
theorem FirstAt.keep {L : List Tm} {k f : Nat} {x y : Tm} (h : FirstAt L k f) (hx : L[k]? = some x) (hy : L[f]? = some y) (hn : ¬ ltT x y) : FirstAt L (k + 1) f := by
  obtain ⟨h1, z, h2, h3⟩ := h
  rw [hy] at h2
  obtain rfl := Option.some.inj h2
  refine ⟨by omega, y, hy, fun u hu => ?_⟩
  rw [← take_snoc hx] at hu
  rcases List.mem_append.1 hu with hu | hu
  · exact h3 u hu
  · simp at hu; subst hu; exact hn
theorem FirstAt.take {L : List Tm} {k f : Nat} {x y : Tm} (h : FirstAt L k f) (hx : L[k]? = some x) (hy : L[f]? = some y) (hn : ltT x y) : FirstAt L (k + 1) k := by
  obtain ⟨h1, z, h2, h3⟩ := h
  rw [hy] at h2
  obtain rfl := Option.some.inj h2
  refine ⟨by omega, x, hx, fun u hu => ?_⟩
  rw [← take_snoc hx] at hu
  rcases List.mem_append.1 hu with hu | hu
  · intro h9
    refine h3 u hu ?_
    unfold ltT at *
    omega
  · simp at hu; subst hu; unfold ltT; omega
def RFirstP (w : World) (L : List Tm) (e : Ending) (w' : World) : Prop := Below w.heap.size w w' ∧ ∃ (f : Nat) (y : Tm), e = .returned (.int .i64 f) ∧ L[f]? = some y ∧ ∀ z ∈ L, ¬ ltT z y

set_option maxHeartbeats 4000000 in
theorem rfirst_any (w : World) (now : Nat) (v : Value) (L : List Tm) (hv : Reads timR w v L) (hL : L.length ≤ 100000) (hpos : 0 < L.length) :
    Calls Try.prog 50 #[.agg #[.int .u64 (now : Int), v]] w (RFirstP w L) := by
  obtain ⟨av, cv, rfl⟩ := hv.form
  have hb : Below w.heap.size w (w.alloc (.cells [.int .u64 (now : Int), .slice av L.length cv].toArray 37)) := (Below.refl _ _).alloc (Nat.le_refl _) _
  have hC := Cel.new w 37 [.int .u64 (now : Int), .slice av L.length cv]
  obtain ⟨W1, hW1⟩ : ∃ W1, W1 = w.alloc (.cells [.int .u64 (now : Int), .slice av L.length cv].toArray 37) := ⟨_, rfl⟩
  rw [← hW1] at hb hC
  have HV := Lib.hid (hv.below hb)
  have HB := Lib.hid hb
  have HC := Lib.hid (hC.get (i := 1) rfl)
  obtain ⟨x0, h0⟩ : ∃ x, L[0]? = some x := ⟨_, List.getElem?_eq_getElem hpos⟩
  have HS : Hid (FirstAt L 1 0) := Lib.hid (by
    have e : L.take 1 = [x0] := by rw [← take_snoc h0]; rfl
    exact ⟨by omega, x0, h0, fun y hy => by rw [e] at hy; simp at hy; subst hy; unfold ltT; omega⟩)
  clear hv hC hb h0
  go_enter Try.func50, Try.ntmps50
  go_upto_region 1 with fail
  show Code.wp _ _ _ _ (w.alloc (.cells [.int .u64 (now : Int), .slice av L.length cv].toArray 37))
  rw [← hW1]
  clear hW1
  go_wp2_with fail
  go_loopw [3, 4] (fun n j wr => ∃ k f : Nat, 1 ≤ k ∧ k ≤ L.length ∧ n = .int .i64 (f : Int) ∧ j = .int .i64 k ∧ Below w.heap.size w wr ∧ Below W1.heap.size W1 wr ∧ Hid (FirstAt L k f)) (fun n j _ => L.length - (intOf j).toNat)
  case atStart => exact ⟨1, 0, by omega, by omega, rfl, rfl, HB.out, Below.refl _ _, HS⟩
  case round =>
    obtain ⟨k, f, hk1, hk, rfl, rfl, hW, hW2, hE⟩ := hrel
    have HW := Lib.hid hW
    have HW2 := Lib.hid hW2
    have c1 := below_cell hW2 HC.out
    clear hW hW2
    by_cases hlt : k < L.length
    · obtain ⟨x, hx⟩ : ∃ x, L[k]? = some x := ⟨_, List.getElem?_eq_getElem hlt⟩
      have hf : f < k := hE.out.lt
      obtain ⟨y, hy⟩ : ∃ y, L[f]? = some y := ⟨_, List.getElem?_eq_getElem (by omega)⟩
      have hfl : f < L.length := by omega
      obtain ⟨b1, o1, rfl, r1⟩ := (HV.out.below HW2.out).at hx
      obtain ⟨b2, o2, e2, r2⟩ := (HV.out.below HW2.out).at hy
      simp only [Value.slice.injEq, Option.some.injEq, Addr.mk.injEq, and_true] at e2
      obtain ⟨e3, e4⟩ := e2
      subst e3 e4
      have c2 := tim_id r1
      have c3 := tim_t r1
      have c4 := tim_id r2
      have c5 := tim_t r2
      have HX := Lib.hid hx
      have HY := Lib.hid hy
      clear hx hy r1 r2
      go_upto_region 5 with fail
      have d1 := fun (z : Later wr) => z.cell c1
      have d2 := fun (z : Later wr) => z.cell c2
      have d3 := fun (z : Later wr) => z.cell c3
      have d4 := fun (z : Later wr) => z.cell c4
      have d5 := fun (z : Later wr) => z.cell c5
      clear c2 c3 c4 c5
      (try simp only [Act.put])
      rcases Nat.lt_trichotomy x.t y.t with ht | ht | ht
      · have q1 : decide ((x.t : Int) < (y.t : Int)) = true := by simp; omega
        have q2 : decide (x.t < y.t) = true := by simp; omega
        have HE2 := Lib.hid (hE.out.take HX.out HY.out (.inl ht))
        refine Mix.wp_region_mix [] [0, 1, 2, 3, 4, 5, 6, 7, 8, 9, 10, 11, 12, 13, 14, 15, 16, 17, 18, 19, 20, 21, 22, 23, 24, 25, 26, 27, 28, 29, 30, 31, 32, 33, 34, 35, 36, 37, 38, 39, 40, 41, 42] (fun w' => ∃ x : Later wr, w' = x.w) (by kernel_rfl) (by kernel_rfl) (Mix.later_drew wr) ?_
        have hb2 : Below wr.heap.size wr wr.drew := (Below.refl _ _).drew
        generalize wr.drew = W2 at hb2 ⊢
        refine Mix.stages_nil ?_
        simp only [Mix.pickL, List.getElem?_cons_zero, List.getElem?_cons_succ]
        repeat (first
          | go_big_quiet_skip
          | (go_big_quiet_want; (go_big_quiet_op; go_big_quiet_on)))
        refine wpQuiet_nil ?_
        clear d1 d2 d3 d4 d5
        clear ht q1 q2
        go_wp2_with fail
        go_roundw
        case rel => exact ⟨k + 1, k, by omega, by omega, rfl, by go_num, bthen' HW.out hb2, bthen' HW2.out hb2, HE2⟩
        case measure => simp [intOf]; omega
      · have q1 : decide ((x.t : Int) < (y.t : Int)) = false := by simp; omega
        have q2 : decide (x.t < y.t) = false := by simp; omega
        have q3 : ((x.t : Int) == (y.t : Int)) = true := by simp; omega
        have q4 : (x.t == y.t) = true := by simp; omega
        cases hid : decide (x.id < y.id) with
        | true =>
          have HE2 := Lib.hid (hE.out.take HX.out HY.out (.inr ⟨ht, of_decide_eq_true hid⟩))
          refine Mix.wp_region_mix [] [0, 1, 2, 3, 4, 5, 6, 7, 8, 9, 10, 11, 12, 13, 14, 15, 16, 17, 18, 19, 20, 21, 22, 23, 24, 25, 26, 27, 28, 29, 30, 31, 32, 33, 34, 35, 36, 37, 38, 39, 40, 41, 42] (fun w' => ∃ x : Later wr, w' = x.w) (by kernel_rfl) (by kernel_rfl) (Mix.later_drew wr) ?_
          have hb2 : Below wr.heap.size wr wr.drew := (Below.refl _ _).drew
          generalize wr.drew = W2 at hb2 ⊢
          refine Mix.stages_nil ?_
          simp only [Mix.pickL, List.getElem?_cons_zero, List.getElem?_cons_succ]
          repeat (first
            | go_big_quiet_skip
            | (go_big_quiet_want; (go_big_quiet_op; go_big_quiet_on)))
          refine wpQuiet_nil ?_
          clear d1 d2 d3 d4 d5
          clear ht q1 q2 q3 q4 hid
          go_wp2_with fail
          go_roundw
          case rel => exact ⟨k + 1, k, by omega, by omega, rfl, by go_num, bthen' HW.out hb2, bthen' HW2.out hb2, HE2⟩
          case measure => simp [intOf]; omega
        | false =>
          have HE2 := Lib.hid (hE.out.keep HX.out HY.out (fun h9 => by have := of_decide_eq_false hid; unfold ltT at h9; omega))
          refine Mix.wp_region_mix [] [0, 1, 2, 3, 4, 5, 6, 7, 8, 9, 10, 11, 12, 13, 14, 15, 16, 17, 18, 19, 20, 21, 22, 23, 24, 25, 26, 27, 28, 29, 30, 31, 32, 33, 34, 35, 36, 37, 38, 39, 40, 41, 42] (fun w' => ∃ x : Later wr, w' = x.w) (by kernel_rfl) (by kernel_rfl) (Mix.later_drew wr) ?_
          have hb2 : Below wr.heap.size wr wr.drew := (Below.refl _ _).drew
          generalize wr.drew = W2 at hb2 ⊢
          refine Mix.stages_nil ?_
          simp only [Mix.pickL, List.getElem?_cons_zero, List.getElem?_cons_succ]
          repeat (first
            | go_big_quiet_skip
            | (go_big_quiet_want; (go_big_quiet_op; go_big_quiet_on)))
          refine wpQuiet_nil ?_
          clear d1 d2 d3 d4 d5
          clear ht q1 q2 q3 q4 hid
          go_wp2_with fail
          go_roundw
          case rel => exact ⟨k + 1, f, by omega, by omega, rfl, by go_num, bthen' HW.out hb2, bthen' HW2.out hb2, HE2⟩
          case measure => simp [intOf]; omega
      · have q1 : decide ((x.t : Int) < (y.t : Int)) = false := by simp; omega
        have q2 : decide (x.t < y.t) = false := by simp; omega
        have q3 : ((x.t : Int) == (y.t : Int)) = false := by simp; omega
        have q4 : (x.t == y.t) = false := by simp; omega
        have HE2 := Lib.hid (hE.out.keep HX.out HY.out (fun h9 => by unfold ltT at h9; omega))
        refine Mix.wp_region_mix [] [0, 1, 2, 3, 4, 5, 6, 7, 8, 9, 10, 11, 12, 13, 14, 15, 16, 17, 18, 19, 20, 21, 22, 23, 24, 25, 26, 27, 28, 29, 30, 31, 32, 33, 34, 35, 36, 37, 38, 39, 40, 41, 42] (fun w' => ∃ x : Later wr, w' = x.w) (by kernel_rfl) (by kernel_rfl) (Mix.later_drew wr) ?_
        have hb2 : Below wr.heap.size wr wr.drew := (Below.refl _ _).drew
        generalize wr.drew = W2 at hb2 ⊢
        refine Mix.stages_nil ?_
        simp only [Mix.pickL, List.getElem?_cons_zero, List.getElem?_cons_succ]
        repeat (first
          | go_big_quiet_skip
          | (go_big_quiet_want; (go_big_quiet_op; go_big_quiet_on)))
        refine wpQuiet_nil ?_
        clear d1 d2 d3 d4 d5
        clear ht q1 q2 q3 q4
        go_wp2_with fail
        go_roundw
        case rel => exact ⟨k + 1, f, by omega, by omega, rfl, by go_num, bthen' HW.out hb2, bthen' HW2.out hb2, HE2⟩
        case measure => simp [intOf]; omega
    · obtain rfl : k = L.length := by omega
      have HF := Lib.hid (show ∃ y, L[f]? = some y ∧ ∀ z ∈ L, ¬ ltT z y from by have := hE.out.ex; rwa [List.take_length] at this)
      clear hE
      go_wp2_with fail
      go_ret
      obtain ⟨y, h1, h2⟩ := HF.out
      exact ⟨HW.out, f, y, rfl, h1, h2⟩
end Go.Proofs.Ytkbjlpdmmbldpaa
