/- The page's example of the due. -/
import Derived.Test.YtkbjlpdmmbldpaaDuB
set_option linter.unusedVariables false
set_option linter.unusedSimpArgs false
set_option maxRecDepth 100000
namespace Go.Proofs.Ytkbjlpdmmbldpaa
open Go.RowKit

/-- A due that is new. -/
def DueS (w wr : World) (d now : Nat) (M : List Tm) : Prop := ∃ T : Nat → Prop, Below w.heap.size w wr ∧ (∀ k, T k → w.heap.size ≤ k) ∧ DueT T wr d now M
namespace DueS
variable {w wr w' : World} {d now : Nat} {M : List Tm}
theorem below' (h : DueS w wr d now M) (hb : Below wr.heap.size wr w') : DueS w w' d now M := h.elim fun T h => ⟨T, bthen' h.1 hb, h.2.1, h.2.2.below hb⟩
theorem low (h : DueS w wr d now M) : Below w.heap.size w wr := h.elim fun _ h => h.1
theorem step {T : Nat → Prop} {now2 : Nat} {M2 : List Tm} (hb : Below w.heap.size w wr) (hT : ∀ k, T k → w.heap.size ≤ k) (hu : UpdP T wr w') (h : DueT (Gr T wr w') w' d now2 M2) : DueS w w' d now2 M2 :=
  ⟨_, hu.toB hb hb.size hT, fun k hk => by
    have := hb.size
    rcases hk with hk | hk
    · exact hT k hk
    · omega, h⟩
end DueS
theorem sset {w wr : World} {d now : Nat} {M : List Tm} (h : DueS w wr d now M) (k i : Int) (t : Nat) (ht : t < 18446744073709551616) (hM : M.length ≤ 20000) :
    Calls Try.prog 27 #[.pointer (some ⟨d, 0, none⟩), .int .i64 k, .int .i64 i, .int .u64 (t : Int)] wr fun e w' => e = .returned (.int .i64 (if mayB k i = true then 0 else 1)) ∧ DueS w w' d now (dsetT M k i t) := by
  obtain ⟨T, h1, h2, h3⟩ := h
  exact (mset h3 k i t ht hM).mono (by rintro e w' ⟨rfl, hu, hd⟩; exact ⟨rfl, .step h1 h2 hu hd⟩)
def sFirstP (w : World) (d now : Nat) (M : List Tm) (to2 : Nat) (e : Ending) (w' : World) : Prop :=
  (((M = [] ∨ ∃ y ∈ M, (∀ z ∈ M, befT z y = false) ∧ to2 < y.t) ∧ e = .returned (.tuple #[timR.val zeroTm, .bool false]) ∧ DueS w w' d now M)) ∨
  ∃ (n : Nat) (y : Tm), M[n]? = some y ∧ (∀ z ∈ M, befT z y = false) ∧ y.t ≤ to2 ∧ e = .returned (.tuple #[timR.val y, .bool true]) ∧ DueS w w' d (max now y.t) (M.eraseIdx n)
theorem sfirst {w wr : World} {d now : Nat} {M : List Tm} (h : DueS w wr d now M) (to2 : Nat) (hto : to2 < 18446744073709551616) (hM : M.length ≤ 20000) :
    Calls Try.prog 29 #[.pointer (some ⟨d, 0, none⟩), .int .u64 (to2 : Int)] wr (sFirstP w d now M to2) := by
  obtain ⟨T, h1, h2, h3⟩ := h
  refine (mfirst h3 to2 hto hM).mono ?_
  rintro e w' (⟨c, rfl, hu, hd⟩ | ⟨n, y, hy, hm, hto, rfl, hu, hd⟩)
  · exact .inl ⟨c, rfl, .step h1 h2 hu hd⟩
  · exact .inr ⟨n, y, hy, hm, hto, rfl, .step h1 h2 hu hd⟩
/-- .. where it is known which one is the first. -/
theorem mfirst_is {T : Nat → Prop} {wr : World} {d now : Nat} {M : List Tm} (h : DueT T wr d now M) (to2 : Nat) (hto : to2 < 18446744073709551616) (hM : M.length ≤ 20000) (n : Nat) (y : Tm) (hy : M[n]? = some y) (hm : ∀ z ∈ M, befT z y = false) (hle : y.t ≤ to2) :
    Calls Try.prog 29 #[.pointer (some ⟨d, 0, none⟩), .int .u64 (to2 : Int)] wr fun e w' => e = .returned (.tuple #[timR.val y, .bool true]) ∧ UpdP T wr w' ∧ DueT (Gr T wr w') w' d (max now y.t) (M.eraseIdx n) := by
  refine (mfirst h to2 hto hM).mono ?_
  rintro e w' (⟨c, rfl, hd⟩ | ⟨n2, y2, hy2, hm2, hto2, rfl, hd⟩)
  · exfalso
    rcases c with rfl | ⟨y2, hy2, hm2, h9⟩
    · simp at hy
    · obtain ⟨n2, hn2, he2⟩ := List.mem_iff_getElem.1 hy2
      obtain ⟨-, rfl⟩ := least_one h.nod hy hm (by rw [List.getElem?_eq_getElem hn2, he2]) hm2
      omega
  · obtain ⟨rfl, rfl⟩ := least_one h.nod hy hm hy2 hm2
    exact ⟨rfl, hd⟩
theorem sfirst_is {w wr : World} {d now : Nat} {M : List Tm} (h : DueS w wr d now M) (to2 : Nat) (hto : to2 < 18446744073709551616) (hM : M.length ≤ 20000) (n : Nat) (y : Tm) (hy : M[n]? = some y) (hm : ∀ z ∈ M, befT z y = false) (hle : y.t ≤ to2) :
    Calls Try.prog 29 #[.pointer (some ⟨d, 0, none⟩), .int .u64 (to2 : Int)] wr fun e w' => e = .returned (.tuple #[timR.val y, .bool true]) ∧ DueS w w' d (max now y.t) (M.eraseIdx n) := by
  obtain ⟨T, h1, h2, h3⟩ := h
  exact (mfirst_is h3 to2 hto hM n y hy hm hle).mono (by rintro e w' ⟨rfl, hu, hd⟩; exact ⟨rfl, .step h1 h2 hu hd⟩)
theorem sgo {w wr : World} {d now : Nat} {M : List Tm} (h : DueS w wr d now M) (to2 : Nat) (hto : to2 < 18446744073709551616) (hM : M.length ≤ 20000) (hno : ∀ x ∈ M, to2 < x.t) :
    Calls Try.prog 31 #[.pointer (some ⟨d, 0, none⟩), .int .u64 (to2 : Int)] wr fun e w' => e = .returned (.bool true) ∧ DueS w w' d (max now to2) M := by
  obtain ⟨T, h1, h2, h3⟩ := h
  obtain ⟨m, b, hn⟩ := next_is M
  refine (mgo h3 to2 hto hM m b hn).mono ?_
  rintro e w' (⟨⟨rfl, c⟩, rfl, hu, hd⟩ | ⟨c, rfl, hu, hd⟩)
  · obtain ⟨⟨x, hx, hxm⟩, -⟩ := hn.yes rfl
    have := hno x hx
    omega
  · exact ⟨rfl, .step h1 h2 hu hd⟩
theorem snew (w : World) (now : Nat) (hnow : now < 18446744073709551616) : Calls Try.prog 26 #[.int .u64 (now : Int)] w fun e w' => ∃ d, e = .returned (.pointer (some ⟨d, 0, none⟩)) ∧ DueS w w' d now [] :=
  (mnew w now hnow).mono (by rintro e w' ⟨d, rfl, hb, hd⟩; exact ⟨d, rfl, _, hb, fun k hk => hk.1, hd⟩)
def m2 : List Tm := [⟨4, 7, 9⟩, ⟨1, 8, 9⟩]
theorem m2_is : dsetT (dsetT [] 4 7 9) 1 8 9 = m2 := by decide
theorem m1_is : m2.eraseIdx 1 = [⟨4, 7, 9⟩] := rfl
theorem num09_any (w : World) (z : Int) : Calls Try.prog 38 #[.int .i64 z] w fun e w' => e = .returned (.int .i64 z) ∧ w = w' := by
  go_enter Try.func38, Try.ntmps38
  go_wp2_with fail
  go_ret
  exact ⟨rfl, by first | rfl | trivial⟩
set_option maxHeartbeats 4000000 in
theorem live09_any (w : World) : Calls Try.prog 25 #[] w fun e w' => e = .returned (.bool true) ∧ Below w.heap.size w w' := by
  have K0 := Lib.hid (snew w 0 (by decide))
  have E2 := Lib.hid m2_is
  have HM1 := Lib.hid (show m2[1]? = some (⟨1, 8, 9⟩ : Tm) from rfl)
  have HM2 := Lib.hid (show ∀ z ∈ m2, befT z ⟨1, 8, 9⟩ = false from by decide)
  go_enter Try.func25, Try.ntmps25
  go_upto_region 2 with (go_at_call 26; refine K0.out.mono ?_; rintro e W1 ⟨d, rfl, hD1⟩; have K1 := Lib.hid (sset hD1 4 7 9 (by decide) (by decide)))
  clear hD1 K0
  go_upto_region 3 with (first
    | (go_at_call 27; refine K2.out.mono ?_; rintro e W3 ⟨rfl, hD3⟩)
    | (go_at_call 27; refine K1.out.mono ?_; rintro e W2 ⟨rfl, hD2⟩; have K2 := Lib.hid (sset hD2 1 8 9 (by decide) (by decide)); clear hD2))
  rw [E2.out] at hD3
  have K3 := Lib.hid (sfirst_is hD3 9 (by decide) (by decide) 1 _ HM1.out HM2.out (by decide))
  clear hD3 K1 K2 HM1 HM2 E2
  go_upto_region 4 with (first
    | (go_at_call 29; refine K3.out.mono ?_; rintro e W4 ⟨rfl, hD4⟩)
    | (refine wpList_store_mid rfl 54 _ _ rfl W4.heap.size 0 (timR.cells ⟨1, 8, 9⟩).toArray rfl rfl (freshR_there timOk W4 ⟨1, 8, 9⟩) (timOk.row' ⟨1, 8, 9⟩) (timOk.one' ⟨1, 8, 9⟩) ?_; show wpList _ _ _ _ _ (freshR timR W4 ⟨1, 8, 9⟩); have hx5 := freshR_range timOk W4 ⟨1, 8, 9⟩; have hb5 := freshR_below (R := timR) W4 ⟨1, 8, 9⟩; generalize freshR timR W4 ⟨1, 8, 9⟩ = W5 at hx5 hb5 ⊢))
  obtain ⟨T4, hw4, hT4, hd4⟩ := hD4
  have hd5 := hd4.below hb5
  rw [m1_is] at hd5
  have hl5 : W4.heap.size < W5.heap.size := (World.block_lt_of_cell? W5 _ (hx5 0 _ rfl))
  have hn5 : ¬ T4 W4.heap.size := fun h9 => by have := hd4.lt _ h9; omega
  obtain ⟨b5, hb5e⟩ : ∃ b5, b5 = W4.heap.size := ⟨_, rfl⟩
  rw [← hb5e] at hx5 hl5 hn5 ⊢
  have HX5 := Lib.hid hx5
  have HW5 := Lib.hid (bthen' hw4 hb5)
  have K5 := Lib.hid (mfirst_is hd5 9 (by decide) (by decide) 0 ⟨4, 7, 9⟩ rfl (by decide) (by decide))
  clear hd4 hd5 hb5 K3 hx5 hb5e hw4
  go_upto_region 5 with (first
    | (go_at_call 29; refine K5.out.mono ?_; rintro e W6 ⟨rfl, hu6, hd6⟩)
    | (refine wpList_store_mid rfl 54 _ _ rfl W6.heap.size 0 (timR.cells ⟨4, 7, 9⟩).toArray rfl rfl (freshR_there timOk W6 ⟨4, 7, 9⟩) (timOk.row' ⟨4, 7, 9⟩) (timOk.one' ⟨4, 7, 9⟩) ?_; show wpList _ _ _ _ _ (freshR timR W6 ⟨4, 7, 9⟩); have hx7 := freshR_range timOk W6 ⟨4, 7, 9⟩; have hb7 := freshR_below (R := timR) W6 ⟨4, 7, 9⟩; generalize freshR timR W6 ⟨4, 7, 9⟩ = W7 at hx7 hb7 ⊢))
  have hS7 := (DueS.step HW5.out hT4 hu6 hd6).below' hb7
  have hs56 := hu6.size
  have hx57 : W7.rangeAt b5 0 (timR.cells ⟨1, 8, 9⟩) := below_range hb7 (fun i v hv => (World.cell?_of_block (w := W5) (hu6.block b5 hl5 hn5)).trans (HX5.out i v hv))
  have K7 := Lib.hid (sgo (w := w) hS7 9 (by decide) (by decide) (by intro x hx; simp at hx))
  have hsame : ∀ w : World, (Op.equalIn (9998 + 2) 54 (.agg (timR.cells ⟨1, 8, 9⟩).toArray) (.agg #[.int .i64 1, .int .i64 8, .int .u64 9])).run Try.prog w = .ok true w := fun w => tm_eq 9998 ⟨1, 8, 9⟩ ⟨1, 8, 9⟩ w
  have hsame2 : ∀ w : World, (Op.equalIn (9998 + 2) 54 (.agg (timR.cells ⟨4, 7, 9⟩).toArray) (.agg #[.int .i64 4, .int .i64 7, .int .u64 9])).run Try.prog w = .ok true w := fun w => tm_eq 9998 ⟨4, 7, 9⟩ ⟨4, 7, 9⟩ w
  have hguard := tmGuard
  clear hS7 hu6 hd6 hT4 HW5 K5 HX5
  go_wp2_with (first
    | (go_at_call 31; refine K7.out.mono ?_; rintro e W8 ⟨rfl, hS8⟩)
    | (go_at_call 38; refine (num09_any _ _).mono ?_; rintro e w' ⟨rfl, rfl⟩)
    | (refine wl_load_mid rfl 54 _ rfl b5 0 rfl (timR.cells ⟨1, 8, 9⟩) _ hx57 Try.underlying54 rfl (timOk.row ⟨1, 8, 9⟩) ?_)
    | (refine wl_load_mid rfl 54 _ rfl W6.heap.size 0 rfl (timR.cells ⟨4, 7, 9⟩) _ hx7 Try.underlying54 rfl (timOk.row ⟨4, 7, 9⟩) ?_))
  go_ret
  exact ⟨rfl, hS8.low⟩
end Go.Proofs.Ytkbjlpdmmbldpaa
