/- The reference's Put: the region that draws its order. -/
import Derived.Test.YtchkbbkcflmcmaaDeadWalks8
set_option linter.unusedVariables false
namespace Go.Proofs.Ytchkbbkcflmcmaa
open Go.RowKit

/-- Letters in a slice that lies from block B on. -/
def LtsAt (B : Nat) (w : World) (v : Value) (L : List Let) : Prop :=
  (L = [] ∧ ∃ a cap, v = .slice a 0 cap) ∨ (∃ b off cap, v = .slice (some ⟨b, off, none⟩) L.length cap ∧ B ≤ b ∧ ∀ i x, L[i]? = some x → w.rangeAt b (off + i * 6) x.cells)
theorem LtsAt.lts {B : Nat} {w : World} {v : Value} {L : List Let} (h : LtsAt B w v L) : Lts w v L := by
  rcases h with h | ⟨b, off, cap, hv, -, hr⟩
  · exact .inl h
  · exact .inr ⟨b, off, cap, hv, hr⟩
theorem LtsAt.out {B : Nat} {w : World} {v : Value} {L : List Let} (h : LtsAt B w v L) (F : List Nat) (hF : ∀ i ∈ F, i < B) : LtsOut F w v L := by
  rcases h with h | ⟨b, off, cap, hv, hb, hr⟩
  · exact .inl h
  · exact .inr ⟨b, off, cap, hv, fun hin => by have := hF b hin; omega, hr⟩

/-- The frame of slots. -/
def pslots (room : Int) (v : Value) (x : Let) (g : Nat) (u7 v8 v9 v10 v11 v12 v13 : Value) : Array Value :=
  #[.int .i64 room, v, .agg x.cells.toArray, undef, undef, .pointer (some ⟨g, 0, none⟩), .slice none 0 0, u7, v8, v9, v10, v11, v12, v13, undef, undef, undef, undef, undef, undef, undef]

def tick (b : Bool) : Nat := if b then 0 else 1

/-- What holds, whatever has come. -/
structure PInv (W0 : World) (v : Value) (L : List Let) (x : Let) (w : World) (d0 d1 d2 d3 d4 d5 d6 : Bool) (u7 v8 v9 v10 v11 v12 v13 : Value) : Prop where
  below : Below W0.heap.size W0 w
  p0 : d0 = true → d2 = false → Own W0.heap.size w v8 []
  p1 : d1 = true → v9 = v
  p2 : d2 = true → d5 = false → Own W0.heap.size w v10 L
  p3 : d3 = true → v11 = .agg x.cells.toArray
  p4 : d4 = true → d5 = false → ∃ c, v12 = .slice (some ⟨c, 0, none⟩) 1 1 ∧ W0.heap.size ≤ c ∧ c < w.heap.size ∧ w.rangeAt c 0 x.cells ∧ (d0 = true → d2 = false → v8.ownBlock ≠ some c)
  p5 : d5 = true → Own W0.heap.size w v13 (L ++ [x])
  p6 : d6 = true → u7 = v13
  e20 : d2 = true → d0 = true
  e21 : d2 = true → d1 = true
  e52 : d5 = true → d2 = true ∧ d4 = true
  e43 : d4 = true → d3 = true
  e65 : d6 = true → d5 = true

def PI (W0 : World) (room : Int) (v : Value) (L : List Let) (x : Let) (g : Nat) (f : Nat) (listed : Array Bool) (a : Act) (w : World) : Prop :=
  ∃ d0 d1 d2 d3 d4 d5 d6 u7 v8 v9 v10 v11 v12 v13, listed = #[d0, d1, d2, d3, d4, d5, d6] ∧ f = tick d0 + tick d1 + tick d2 + tick d3 + tick d4 + tick d5 + tick d6 ∧
    a = { tmps := pslots room v x g u7 v8 v9 v10 v11 v12 v13, defers := [] } ∧ PInv W0 v L x w d0 d1 d2 d3 d4 d5 d6 u7 v8 v9 v10 v11 v12 v13

theorem wp_build_none {o : Oper} {a : Act} {w : World} {K : Act → World → Prop} {Q : Exit → Act → World → Prop} (ho : o.op = .buildSlice 26 0 #[])
    (h : K (a.put o.dst (.slice (some ⟨w.heap.size, 0, none⟩) 0 0)) (w.alloc (.cells #[] 29))) : o.wp Try.prog a w K Q := by
  obtain ⟨i, hi, hs6⟩ : ∃ i, Try.prog.info? 29 = some i ∧ i.size = 6 := ⟨_, rfl, rfl⟩
  unfold Oper.wp execOp
  simp [ho, Instr.buildSlice, run_underlying Try.underlying26, sizeOf, typeInfo, hi, Instr.fill, newRow, Array.range_zero']
  exact h

theorem wp_build_let {o : Oper} {a : Act} {w : World} {K : Act → World → Prop} {Q : Exit → Act → World → Prop} (x : Operand)
    (ho : o.op = .buildSlice 26 1 #[(0, x)]) (y : Let) (hx : a.eval x = .agg y.cells.toArray)
    (h : K (a.put o.dst (.slice (some ⟨w.heap.size, 0, none⟩) 1 1)) (w.alloc (.cells y.cells.toArray 29))) : o.wp Try.prog a w K Q := by
  obtain ⟨i, hi, hz, hs6⟩ : ∃ i, Try.prog.info? 29 = some i ∧ i.zero = some (.agg zeroLet.cells.toArray) ∧ i.size = 6 := ⟨_, rfl, rfl, rfl⟩
  refine wp_buildSlice 26 29 1 #[(0, x)] ho y.cells.toArray i _ Try.underlying26 hi hz (by rw [hs6]; decide) (by rw [hs6]; decide) ?_ h
  rw [hs6]
  have e : (Array.map (fun x => (x.1, a.eval x.2)) #[(0, x)]).toList = [(0, .agg y.cells.toArray)] := by simp [hx]
  rw [show ((#[(0, x)] : Array (Nat × Operand)).map fun (i, x) => (i, a.eval x)).toList = [(0, .agg y.cells.toArray)] from e]
  exact let_fill y

theorem wp_move {P : Program} {o : Oper} {a : Act} {w : World} {K : Act → World → Prop} {Q : Exit → Act → World → Prop} (x : Operand) (ho : o.op = .move x) (h : K (a.put o.dst (a.eval x)) w) : o.wp P a w K Q := by
  unfold Oper.wp execOp
  simp [ho]
  exact h
theorem wp_assign {P : Program} {o : Oper} {a : Act} {w : World} {K : Act → World → Prop} {Q : Exit → Act → World → Prop} (x : Operand) (ho : o.op = .assign x) (h : K (a.put o.dst (a.eval x)) w) : o.wp P a w K Q := by
  unfold Oper.wp execOp
  simp [ho]
  exact h

set_option maxRecDepth 100000 in
set_option maxHeartbeats 1000000 in
theorem refPut_at (w : World) (room : Int) (v : Value) (x : Let) (L : List Let) (hv : Lts w v L) (hl : L.length ≤ 100000) :
    Calls Try.prog 8 #[.int .i64 room, v, .agg x.cells.toArray] w fun e w' => ∃ v', e = .returned v' ∧ Below w.heap.size w w' ∧ LtsAt w.heap.size w' v' (if room < L.length + 1 then (L ++ [x]).tail else L ++ [x]) := by
  go_enter Try.func8, Try.ntmps8
  go_wp2_with fail
  have hX : (w.alloc (.cells x.cells.toArray 29)).rangeAt w.heap.size 0 x.cells := row_range (heap_alloc_new _ _)
  have hW : Below w.heap.size w (w.alloc (.cells x.cells.toArray 29)) := (Below.refl _ _).alloc (Nat.le_refl _) _
  have hv1 := hv.below hW
  generalize w.alloc (.cells x.cells.toArray 29) = W0 at hX hW hv1 ⊢
  refine wp_region_inv (PI W0 room v L x w.heap.size) (by kernel_rfl) ?_ ?_ ?_ ?_
  · intro listed a w' h
    obtain ⟨d0, d1, d2, d3, d4, d5, d6, u7, v8, v9, v10, v11, v12, v13, rfl, hf, rfl, hI⟩ := h
    have : d0 = true ∧ d1 = true ∧ d2 = true ∧ d3 = true ∧ d4 = true ∧ d5 = true ∧ d6 = true := by
      cases d0 <;> cases d1 <;> cases d2 <;> cases d3 <;> cases d4 <;> cases d5 <;> cases d6 <;> simp [tick] at hf ⊢
    obtain ⟨rfl, rfl, rfl, rfl, rfl, rfl, rfl⟩ := this
    show Region.ready _ _ _ = []
    rfl
  · intro f listed a w' h hr
    obtain ⟨d0, d1, d2, d3, d4, d5, d6, u7, v8, v9, v10, v11, v12, v13, rfl, hf, rfl, hI⟩ := h
    have h2 := congrArg List.isEmpty hr
    clear hr
    have h6 : d6 = true := by
      clear hI hf
      cases d0 <;> cases d1 <;> cases d2 <;> cases d3 <;> cases d4 <;> cases d5 <;> cases d6 <;> first | rfl | (exact absurd h2 (by decide +kernel))
    have h5 := hI.e65 h6
    have hu := hI.p6 h6
    have hO := hI.p5 h5
    have hB := hI.below
    have hW3 := bthen' hW hB
    clear h2 h6 h5 hI hf
    subst hu
    have hlen : (L ++ [x]).length = L.length + 1 := by simp
    obtain ⟨g, cap, hcap, hgB, hvf, hr7⟩ : ∃ g cap, L.length + 1 ≤ cap ∧ w.heap.size ≤ g ∧ u7 = .slice (some ⟨g, 0, none⟩) (L.length + 1) cap ∧ ∀ i y, (L ++ [x])[i]? = some y → w'.rangeAt g (0 + i * 6) y.cells := by
      rcases hO.2 with ⟨_, h0⟩ | ⟨g, cap, cur, hv, hb, hg, hn, hm, hs, ht⟩
      · rw [hlen] at h0; omega
      · refine ⟨g, cap, by omega, by have := hW.size; omega, by rw [hv, hlen], fun i y hy => ?_⟩
        rcases hO.lts with ⟨h0, _⟩ | ⟨b, off, cap2, hv2, hr⟩
        · simp at h0
        · rw [hv] at hv2
          simp only [Value.slice.injEq, Option.some.injEq, Addr.mk.injEq, and_true] at hv2
          obtain ⟨⟨rfl, rfl⟩, _, _⟩ := hv2
          exact hr i y hy
    subst hvf
    have HR := Lib.hid hr7
    have HW := Lib.hid hW3
    clear hO hr7 hW3 hB hlen
    unfold pslots
    by_cases hroom : room < (L.length : Int) + 1
    · go_wp2_with fail
      all_goals go_ret
      · refine ⟨_, rfl, HW.out, ?_⟩
        have h0 : L = [] := List.eq_nil_of_length_eq_zero (by omega)
        subst h0
        exact .inl ⟨rfl, _, _, rfl⟩
      · refine ⟨_, rfl, HW.out, .inr ⟨g, 6, cap - 1, ?_, hgB, fun i y hy => ?_⟩⟩
        · simp
        · have h1 := HR.out (i + 1) y (by rw [List.getElem?_tail] at hy; exact hy)
          rwa [show 6 + i * 6 = 0 + (i + 1) * 6 by omega]
    · have hroom := Int.not_lt.1 hroom
      go_wp2_with fail
      all_goals go_ret
      exact ⟨_, rfl, HW.out, .inr ⟨g, 0, cap, by simp, hgB, HR.out⟩⟩
  · intro f listed a w' h i hi
    obtain ⟨hl0, o, ho, he⟩ := mem_ready.1 hi
    obtain ⟨d0, d1, d2, d3, d4, d5, d6, u7, v8, v9, v10, v11, v12, v13, rfl, hf, rfl, hI⟩ := h
    clear hi
    match i, ho with
    | 0, ho =>
      obtain rfl := Option.some.inj ho
      have e : d0 = false := hl0
      subst e
      refine wpOp_of rfl rfl (wp_build_none rfl ?_)
      refine ⟨true, d1, d2, d3, d4, d5, d6, u7, _, v9, v10, v11, v12, v13, rfl, by simp [tick] at hf ⊢; omega, rfl, ?_⟩
      refine ⟨hI.below.alloc hI.below.size _, fun _ _ => Own.made hI.below.size, hI.p1, fun h => (by have := hI.e20 h; cases this), hI.p3, fun h4 h5 => ?_, fun h5 => (by have := hI.e20 (hI.e52 h5).1; cases this), hI.p6, fun _ => rfl, hI.e21, hI.e52, hI.e43, hI.e65⟩
      obtain ⟨c, hc, h1, h2, h3, _⟩ := hI.p4 h4 h5
      exact ⟨c, hc, h1, by simp; omega, World.rangeAt_alloc h3 _, fun _ _ => by simp [Value.ownBlock]; omega⟩
    | 1, ho =>
      obtain rfl := Option.some.inj ho
      have e : d1 = false := hl0
      subst e
      refine wpOp_of rfl rfl (wp_move _ rfl ?_)
      refine ⟨d0, true, d2, d3, d4, d5, d6, u7, v8, _, v10, v11, v12, v13, rfl, by simp [tick] at hf ⊢; omega, rfl, ?_⟩
      exact ⟨hI.below, hI.p0, fun _ => rfl, hI.p2, hI.p3, hI.p4, hI.p5, hI.p6, hI.e20, fun h => (by have := hI.e21 h; cases this), hI.e52, hI.e43, hI.e65⟩
    | 2, ho =>
      obtain rfl := Option.some.inj ho
      have e : d2 = false := hl0
      subst e
      have k0 : d0 = true := he ⟨0, .data⟩ (by simp) rfl
      have k1 : d1 = true := he ⟨1, .data⟩ (by simp) rfl
      have hO := hI.p0 k0 rfl
      refine wpOp_of rfl rfl (wp_append_lts _ _ rfl rfl W0.heap.size v8 v [] L rfl (hI.p1 k1) hO (hv1.below hI.below) (by simp; omega) hI.below.size ?_)
      intro u' w2 hO2 hg hat
      refine ⟨d0, d1, true, d3, d4, d5, d6, u7, v8, v9, u', v11, v12, v13, rfl, by simp [tick] at hf ⊢; omega, rfl, ?_⟩
      refine ⟨hI.below.grown hg hI.below.size (fun k hk => (hO.lt k hk).1), fun _ h => (by cases h), hI.p1, fun _ _ => hO2, hI.p3, fun h4 h5 => ?_, fun h5 => (by have := (hI.e52 h5).1; cases this), hI.p6, fun _ => k0, fun _ => k1, fun h5 => (by have := (hI.e52 h5).1; cases this), hI.e43, hI.e65⟩
      obtain ⟨c, hc, h1, h2, h3, h4⟩ := hI.p4 h4 h5
      exact ⟨c, hc, h1, by have := hg.size; omega, fun j z hz => hg.cell (h3 j z hz) (fun e => h4 k0 rfl e.symm), fun _ h => (by cases h)⟩
    | 3, ho =>
      obtain rfl := Option.some.inj ho
      have e : d3 = false := hl0
      subst e
      refine wpOp_of rfl rfl (wp_load_mid 29 _ rfl w.heap.size 0 rfl x.cells _ (below_range hI.below hX) Try.underlying29 rfl (letRow x) ?_)
      refine ⟨d0, d1, d2, true, d4, d5, d6, u7, v8, v9, v10, _, v12, v13, rfl, by simp [tick] at hf ⊢; omega, rfl, ?_⟩
      exact ⟨hI.below, hI.p0, hI.p1, hI.p2, fun _ => rfl, hI.p4, hI.p5, hI.p6, hI.e20, hI.e21, hI.e52, fun _ => rfl, hI.e65⟩
    | 4, ho =>
      obtain rfl := Option.some.inj ho
      have e : d4 = false := hl0
      subst e
      have k3 : d3 = true := he ⟨3, .data⟩ (by simp) rfl
      refine wpOp_of rfl rfl (wp_build_let _ rfl x (hI.p3 k3) ?_)
      refine ⟨d0, d1, d2, d3, true, d5, d6, u7, v8, v9, v10, v11, _, v13, rfl, by simp [tick] at hf ⊢; omega, rfl, ?_⟩
      refine ⟨hI.below.alloc hI.below.size _, fun h0 h2 => (hI.p0 h0 h2).below ((Below.refl _ _).alloc (Nat.le_refl _) _), hI.p1, fun h2 h5 => (hI.p2 h2 h5).below ((Below.refl _ _).alloc (Nat.le_refl _) _), hI.p3, fun _ _ => ⟨_, rfl, hI.below.size, by simp, row_range (heap_alloc_new _ _), fun h0 h2 e => ?_⟩, fun h5 => (by have := (hI.e52 h5).2; cases this), hI.p6, hI.e20, hI.e21, fun h5 => (by have := (hI.e52 h5).2; cases this), fun _ => k3, hI.e65⟩
      have := ((hI.p0 h0 h2).lt _ e).2
      omega
    | 5, ho =>
      obtain rfl := Option.some.inj ho
      have e : d5 = false := hl0
      subst e
      have k2 : d2 = true := he ⟨2, .data⟩ (by simp) rfl
      have k4 : d4 = true := he ⟨4, .data⟩ (by simp) rfl
      have hO := hI.p2 k2 rfl
      obtain ⟨c, hc, h1, h2, h3, _⟩ := hI.p4 k4 rfl
      refine wpOp_of rfl rfl (wp_append_lts _ _ rfl rfl W0.heap.size v10 v12 L [x] rfl rfl hO ?_ (by simp; omega) hI.below.size ?_)
      · exact .inr ⟨c, 0, 1, hc, fun i y hy => by
          cases i with
          | zero => simp at hy; subst hy; simpa using h3
          | succ i => simp at hy⟩
      intro u' w2 hO2 hg hat
      refine ⟨d0, d1, d2, d3, d4, true, d6, u7, v8, v9, v10, v11, v12, u', rfl, by simp [tick] at hf ⊢; omega, rfl, ?_⟩
      exact ⟨hI.below.grown hg hI.below.size (fun k hk => (hO.lt k hk).1), fun _ h => (by rw [k2] at h; cases h), hI.p1, fun _ h => (by cases h), hI.p3, fun _ h => (by cases h), fun _ => hO2, fun h6 => (by have := hI.e65 h6; cases this), hI.e20, hI.e21, fun _ => ⟨k2, k4⟩, hI.e43, fun h6 => (by have := hI.e65 h6; cases this)⟩
    | 6, ho =>
      obtain rfl := Option.some.inj ho
      have e : d6 = false := hl0
      subst e
      have k5 : d5 = true := he ⟨5, .data⟩ (by simp) rfl
      refine wpOp_of rfl rfl (wp_assign _ rfl ?_)
      refine ⟨d0, d1, d2, d3, d4, d5, true, _, v8, v9, v10, v11, v12, v13, rfl, by simp [tick] at hf ⊢; omega, rfl, ?_⟩
      exact ⟨hI.below, hI.p0, hI.p1, hI.p2, hI.p3, hI.p4, hI.p5, fun _ => rfl, hI.e20, hI.e21, hI.e52, hI.e43, fun _ => k5⟩
    | i + 7, ho => cases ho
  · exact ⟨false, false, false, false, false, false, false, undef, undef, undef, undef, undef, undef, undef, rfl, rfl, rfl, ⟨(Below.refl _ _).drew, by simp, by simp, by simp, by simp, by simp, by simp, by simp, by simp, by simp, by simp, by simp, by simp⟩⟩

theorem refPut_region (w : World) (room : Int) (v : Value) (x : Let) (L : List Let) (hv : Lts w v L) (hl : L.length ≤ 100000) :
    Calls Try.prog 8 #[.int .i64 room, v, .agg x.cells.toArray] w fun e w' => ∃ v', e = .returned v' ∧ Below w.heap.size w w' ∧ Lts w' v' (if room < L.length + 1 then (L ++ [x]).tail else L ++ [x]) :=
  (refPut_at w room v x L hv hl).mono fun e w' ⟨v', h1, h2, h3⟩ => ⟨v', h1, h2, h3.lts⟩

end Go.Proofs.Ytchkbbkcflmcmaa
