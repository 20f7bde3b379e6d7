/- The reference's Add. -/
import Derived.Test.YtbghodknnejihaaWatWalks3
import Derived.Test.YtbghodknnejihaaTwoApp
set_option linter.unusedVariables false
namespace Go.Proofs.Ytbghodknnejihaa
open Go.RowKit

/-- The frame of slots. -/
def aslots (room : Int) (av : Option Addr) (n capv : Nat) (x : Wat) (g : Nat) (lo hr : Bool) (u6 v8 v9 v10 v11 v12 v13 : Value) : Array Value :=
  #[.int .i64 room, .slice av n capv, .agg (watR.cells x).toArray, undef, undef,
    .pointer (some ⟨g, 0, none⟩), u6, .int .i64 0, .pointer (some ⟨g, 0, none⟩), .string x.name, .bool true,
    .bool false, undef, .pointer (some ⟨g, 1, none⟩), .int .i64 x.op, .bool lo, undef, .slice av n capv, .agg (watR.cells x).toArray,
    .bool false, undef, .slice av n capv, .int .i64 n, .int .i64 room, .bool hr, undef, v8, v9, v10, v11, v12, v13]
def AI (W0 : World) (room : Int) (av : Option Addr) (capv : Nat) (L : List Wat) (x : Wat) (g : Nat) (lo hr : Bool) (f : Nat) (listed : Array Bool) (a : Act) (w : World) : Prop :=
  ∃ d0 d1 d2 d3 d4 d5 d6 d7 u6 v8 v9 v10 v11 v12 v13, listed = #[d0, d1, d2, d3, d4, d5, d6, d7] ∧ f = tick d0 + tick d1 + tick d2 + tick d3 + tick d4 + tick d5 + tick d6 + tick d7 ∧
    a = { tmps := aslots room av L.length capv x g lo hr u6 v8 v9 v10 v11 v12 v13, defers := [] } ∧ Two watR W0 (.slice av L.length capv) L x w d0 d1 d2 d3 d4 d5 v8 v9 v10 v11 v12 v13 ∧ (d6 = true → d5 = true ∧ u6 = v13)

/-- One more behind a copy of its own is handed back. -/
def RefAdded (w : World) (L : List Wat) (e : Ending) (w' : World) : Prop := ∃ v', e = .returned (.tuple #[v', .int .i64 0]) ∧ Below w.heap.size w w' ∧ Owns watR w.heap.size w' v' L

set_option maxRecDepth 100000 in
set_option maxHeartbeats 2000000 in
theorem refAdd_no (w : World) (room : Int) (v : Value) (L : List Wat) (hv : Reads watR w v L) (x : Wat) (hs : x.name.size ≤ 9223372036854775807) (hbig : L.length ≤ 1000000) (h0 : mayv room L (nameB x.name.data.toList) x ≠ 0) :
    Calls Try.prog 7 #[.int .i64 room, v, .agg (watR.cells x).toArray] w fun e w' => e = .returned (.tuple #[v, .int .i64 (mayv room L (nameB x.name.data.toList) x)]) ∧ Below w.heap.size w w' := by
  have hX := range_arr x (heap_alloc_new w (.cells (watR.cells x).toArray 28))
  have hW : Below w.heap.size w (w.alloc (.cells (watR.cells x).toArray 28)) := (Below.refl _ _).alloc (Nat.le_refl _) _
  have HV := Lib.hid (hv.below hW)
  clear hv
  obtain ⟨n0, n1⟩ := name_cell hX
  obtain ⟨av, capv, rfl⟩ := HV.out.form
  cases hn : nameB x.name.data.toList with
  | false =>
    have hm := Lib.hid (show mayv room L false x = 5 from rfl)
    clear h0
    go_enter Try.func7, Try.ntmps7
    go_wp2_with (go_at_call 18; refine (refName_any _ _ hs).mono ?_; rintro e W1 ⟨rfl, hb1⟩; have hX1 := below_range hb1 hX; obtain ⟨m0, m1⟩ := name_cell hX1)
    rw [hm.out]
    go_ret2
    exact ⟨rfl, bthen' hW hb1⟩
  | true =>
    rw [hn] at h0
    by_cases hop : x.op < 1
    · have hm := Lib.hid (show mayv room L true x = 1 from by unfold mayv; rw [if_neg (by simp), if_pos hop])
      clear h0
      go_enter Try.func7, Try.ntmps7
      go_wp2_with (go_at_call 18; refine (refName_any _ _ hs).mono ?_; rintro e W1 ⟨rfl, hb1⟩; have hX1 := below_range hb1 hX; obtain ⟨m0, m1⟩ := name_cell hX1)
      rw [hm.out]
      go_ret2
      exact ⟨rfl, bthen' hW hb1⟩
    · by_cases hmem : x ∈ L
      · have hm := Lib.hid (show mayv room L true x = 8 from by unfold mayv; rw [if_neg (by simp), if_neg hop, if_pos hmem])
        have hmb : decide (x ∈ L) = true := decide_eq_true hmem
        clear h0 hmem
        go_enter Try.func7, Try.ntmps7
        go_wp2_with (first
          | (go_at_call 18; refine (refName_any _ _ hs).mono ?_; rintro e W1 ⟨rfl, hb1⟩; have hX1 := below_range hb1 hX; obtain ⟨m0, m1⟩ := name_cell hX1)
          | (refine wpList_load_mid rfl 28 _ rfl w.heap.size 0 rfl (watR.cells x) _ hX1 Try.underlying28 rfl (watOk.row x) ?_)
          | (go_at_call 19; refine (has_wat _ _ L (HV.out.below hb1) x hbig).mono ?_; rintro e W2 ⟨rfl, hb2⟩; rw [hmb]))
        rw [hm.out]
        go_ret2
        exact ⟨rfl, bthen' (bthen' hW hb1) hb2⟩
      · have hrm : room ≤ (L.length : Int) := by
          rcases Int.lt_or_le (L.length : Int) room with h | h
          · exfalso; apply h0; unfold mayv; rw [if_neg (by simp), if_neg hop, if_neg hmem, if_neg (by omega)]
          · exact h
        have hm := Lib.hid (show mayv room L true x = 9 from by unfold mayv; rw [if_neg (by simp), if_neg hop, if_neg hmem, if_pos hrm])
        have hmb : decide (x ∈ L) = false := decide_eq_false hmem
        clear h0 hmem
        go_enter Try.func7, Try.ntmps7
        go_wp2_with (first
          | (go_at_call 18; refine (refName_any _ _ hs).mono ?_; rintro e W1 ⟨rfl, hb1⟩; have hX1 := below_range hb1 hX; obtain ⟨m0, m1⟩ := name_cell hX1)
          | (refine wpList_load_mid rfl 28 _ rfl w.heap.size 0 rfl (watR.cells x) _ hX1 Try.underlying28 rfl (watOk.row x) ?_)
          | (go_at_call 19; refine (has_wat _ _ L (HV.out.below hb1) x hbig).mono ?_; rintro e W2 ⟨rfl, hb2⟩; rw [hmb]))
        rw [hm.out]
        go_ret2
        exact ⟨rfl, bthen' (bthen' hW hb1) hb2⟩

set_option maxRecDepth 100000 in
set_option maxHeartbeats 2000000 in
theorem refAdd_yes (w : World) (room : Int) (v : Value) (L : List Wat) (hv : Reads watR w v L) (x : Wat) (hs : x.name.size ≤ 9223372036854775807) (hbig : L.length ≤ 100000) (h0 : mayv room L (nameB x.name.data.toList) x = 0) :
    Calls Try.prog 7 #[.int .i64 room, v, .agg (watR.cells x).toArray] w (RefAdded w (L ++ [x])) := by
  have hX := range_arr x (heap_alloc_new w (.cells (watR.cells x).toArray 28))
  have hW : Below w.heap.size w (w.alloc (.cells (watR.cells x).toArray 28)) := (Below.refl _ _).alloc (Nat.le_refl _) _
  have HV := Lib.hid (hv.below hW)
  clear hv
  obtain ⟨n0, n1⟩ := name_cell hX
  obtain ⟨av, capv, rfl⟩ := HV.out.form
  have hn : nameB x.name.data.toList = true := by
    cases hn : nameB x.name.data.toList with
    | true => rfl
    | false => rw [hn] at h0; simp [mayv] at h0
  rw [hn] at h0
  have hop : ¬ x.op < 1 := fun h => by unfold mayv at h0; rw [if_neg (by simp), if_pos h] at h0; omega
  have hmem : x ∉ L := fun h => by unfold mayv at h0; rw [if_neg (by simp), if_neg hop, if_pos h] at h0; omega
  have hrm : ¬ room ≤ (L.length : Int) := fun h => by unfold mayv at h0; rw [if_neg (by simp), if_neg hop, if_neg hmem, if_pos h] at h0; omega
  have hmb : decide (x ∈ L) = false := decide_eq_false hmem
  clear h0 hmem
  go_enter Try.func7, Try.ntmps7
  go_wp2_with (first
    | (go_at_call 18; refine (refName_any _ _ hs).mono ?_; rintro e W1 ⟨rfl, hb1⟩; have hX1 := below_range hb1 hX; obtain ⟨m0, m1⟩ := name_cell hX1)
    | (refine wpList_load_mid rfl 28 _ rfl w.heap.size 0 rfl (watR.cells x) _ hX1 Try.underlying28 rfl (watOk.row x) ?_)
    | (go_at_call 19; refine (has_wat _ _ L (HV.out.below hb1) x (by omega)).mono ?_; rintro e W2 ⟨rfl, hb2⟩; rw [hmb]))
  have HW2 := Lib.hid (bthen' (bthen' hW hb1) hb2)
  have HV2 := Lib.hid ((HV.out.below hb1).below hb2)
  have HX2 := Lib.hid (below_range hb2 hX1)
  have hlen : L.length ≤ 100000 := hbig
  clear hX hX1 hW hb1 hb2 n0 n1 m0 m1 HV hmb hbig
  refine wp_region_inv (AI W2 room av capv L x w.heap.size (decide (x.op < 1)) (decide (room ≤ (L.length : Int)))) (by kernel_rfl) ?_ ?_ ?_ ?_
  · intro listed a w' h
    obtain ⟨d0, d1, d2, d3, d4, d5, d6, d7, u6, v8, v9, v10, v11, v12, v13, rfl, hf, rfl, hI, h6⟩ := h
    have : d0 = true ∧ d1 = true ∧ d2 = true ∧ d3 = true ∧ d4 = true ∧ d5 = true ∧ d6 = true ∧ d7 = true := by
      cases d0 <;> cases d1 <;> cases d2 <;> cases d3 <;> cases d4 <;> cases d5 <;> cases d6 <;> cases d7 <;> simp [tick] at hf ⊢
    obtain ⟨rfl, rfl, rfl, rfl, rfl, rfl, rfl, rfl⟩ := this
    show Region.ready _ _ _ = []
    rfl
  · intro f listed a w' h hr
    obtain ⟨d0, d1, d2, d3, d4, d5, d6, d7, u6, v8, v9, v10, v11, v12, v13, rfl, hf, rfl, hI, h6⟩ := h
    have h2 := congrArg List.isEmpty hr
    clear hr
    have h6t : d6 = true := by
      clear hI hf h6
      cases d0 <;> cases d1 <;> cases d2 <;> cases d3 <;> cases d4 <;> cases d5 <;> cases d6 <;> cases d7 <;> first | rfl | (exact absurd h2 (by decide +kernel))
    obtain ⟨h5, rfl⟩ := h6 h6t
    have hO := hI.p5 h5
    have hB := hI.below
    clear h2 h6t h5 hI hf h6
    unfold aslots
    have HO := Lib.hid hO
    have HB := Lib.hid (bthen' HW2.out hB)
    clear hO hB
    go_wp2_with fail
    go_ret2
    exact ⟨_, rfl, HB.out, HO.out.mono HW2.out.size⟩
  · intro f listed a w' h i hi
    obtain ⟨hl0, o, ho, he⟩ := mem_ready.1 hi
    obtain ⟨d0, d1, d2, d3, d4, d5, d6, d7, u6, v8, v9, v10, v11, v12, v13, rfl, hf, rfl, hI, h6⟩ := h
    clear hi
    match i, ho with
    | 0, ho =>
      obtain rfl := Option.some.inj ho
      have e : d0 = false := hl0
      subst e
      refine wpOp_of rfl rfl (wp_build_none_rec watOk rfl ?_)
      exact ⟨true, d1, d2, d3, d4, d5, d6, d7, u6, _, v9, v10, v11, v12, v13, rfl, by simp [tick] at hf ⊢; omega, rfl, hI.step0, h6⟩
    | 1, ho =>
      obtain rfl := Option.some.inj ho
      have e : d1 = false := hl0
      subst e
      refine wpOp_of rfl rfl (wp_move _ rfl ?_)
      exact ⟨d0, true, d2, d3, d4, d5, d6, d7, u6, v8, _, v10, v11, v12, v13, rfl, by simp [tick] at hf ⊢; omega, rfl, hI.step1, h6⟩
    | 2, ho =>
      obtain rfl := Option.some.inj ho
      have e : d2 = false := hl0
      subst e
      have k0 : d0 = true := he ⟨0, .data⟩ (by simp) rfl
      have k1 : d1 = true := he ⟨1, .data⟩ (by simp) rfl
      subst k0 k1
      refine wpOp_of rfl rfl (wp_append_all watOk _ _ rfl rfl W2.heap.size v8 (.slice av L.length capv) [] L rfl (hI.p1 rfl) (hI.p0 rfl rfl) (HV2.out.below hI.below) (by simp; omega) hI.below.size ?_)
      intro u' w2 hO2 hg hat
      exact ⟨true, true, true, d3, d4, d5, d6, d7, u6, v8, v9, u', v11, v12, v13, rfl, by simp [tick] at hf ⊢; omega, rfl, hI.step2 hO2 hg, h6⟩
    | 3, ho =>
      obtain rfl := Option.some.inj ho
      have e : d3 = false := hl0
      subst e
      refine wpOp_of rfl rfl (wp_load_mid 28 _ rfl w.heap.size 0 rfl (watR.cells x) _ (below_range hI.below HX2.out) Try.underlying28 rfl (watOk.row x) ?_)
      exact ⟨d0, d1, d2, true, d4, d5, d6, d7, u6, v8, v9, v10, _, v12, v13, rfl, by simp [tick] at hf ⊢; omega, rfl, hI.step3, h6⟩
    | 4, ho =>
      obtain rfl := Option.some.inj ho
      have e : d4 = false := hl0
      subst e
      have k3 : d3 = true := he ⟨3, .data⟩ (by simp) rfl
      subst k3
      refine wpOp_of rfl rfl (wp_build_rec watOk _ rfl x (hI.p3 rfl) ?_)
      exact ⟨d0, d1, d2, true, true, d5, d6, d7, u6, v8, v9, v10, v11, _, v13, rfl, by simp [tick] at hf ⊢; omega, rfl, hI.step4, h6⟩
    | 5, ho =>
      obtain rfl := Option.some.inj ho
      have e : d5 = false := hl0
      subst e
      have k2 : d2 = true := he ⟨2, .data⟩ (by simp) rfl
      have k4 : d4 = true := he ⟨4, .data⟩ (by simp) rfl
      subst k2 k4
      refine wpOp_of rfl rfl (wp_append_all watOk _ _ rfl rfl W2.heap.size v10 v12 L [x] rfl rfl (hI.p2 rfl rfl) hI.one (by simp; omega) hI.below.size ?_)
      intro u' w2 hO2 hg hat
      exact ⟨d0, d1, true, d3, true, true, d6, d7, u6, v8, v9, v10, v11, v12, u', rfl, by simp [tick] at hf ⊢; omega, rfl, hI.step5 hO2 hg, fun h => (by have := (h6 h).1; cases this)⟩
    | 6, ho =>
      obtain rfl := Option.some.inj ho
      have e : d6 = false := hl0
      subst e
      have k5 : d5 = true := he ⟨5, .data⟩ (by simp) rfl
      refine wpOp_of rfl rfl (wp_assign _ rfl ?_)
      exact ⟨d0, d1, d2, d3, d4, d5, true, d7, v13, v8, v9, v10, v11, v12, v13, rfl, by simp [tick] at hf ⊢; omega, rfl, hI, fun _ => ⟨k5, rfl⟩⟩
    | 7, ho =>
      obtain rfl := Option.some.inj ho
      have e : d7 = false := hl0
      subst e
      refine wpOp_of rfl rfl (wp_assign _ rfl ?_)
      exact ⟨d0, d1, d2, d3, d4, d5, d6, true, u6, v8, v9, v10, v11, v12, v13, rfl, by simp [tick] at hf ⊢; omega, rfl, hI, h6⟩
    | i + 8, ho => cases ho
  · exact ⟨false, false, false, false, false, false, false, false, _, _, _, _, _, _, _, rfl, rfl, rfl, Two.start (Below.refl _ _).drew, by simp⟩

end Go.Proofs.Ytbghodknnejihaa
