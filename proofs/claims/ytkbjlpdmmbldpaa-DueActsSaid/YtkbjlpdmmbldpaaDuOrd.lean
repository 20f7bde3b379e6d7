/- Timers come by rising ticks, kinds and numbers. -/
import Derived.Test.YtkbjlpdmmbldpaaDuOpen
set_option linter.unusedVariables false
set_option linter.unusedSimpArgs false
set_option maxRecDepth 100000
namespace Go.Proofs.Ytkbjlpdmmbldpaa
open Go.RowKit

theorem later_any (w : World) (x y : Tm) : Calls Try.prog 32 #[timR.val x, timR.val y] w fun e w' => e = .returned (.bool (befT y x)) ∧ Below w.heap.size w w' := by
  have hb1 : Below w.heap.size w (w.alloc (.cells (timR.cells x).toArray 54)) := (Below.refl _ _).alloc (Nat.le_refl _) _
  have hb2 : Below w.heap.size w ((w.alloc (.cells (timR.cells x).toArray 54)).alloc (.cells (timR.cells y).toArray 54)) := hb1.alloc hb1.size _
  have hn1 := heap_alloc_new w (.cells (timR.cells x).toArray 54)
  have hn2 := heap_alloc_new (w.alloc (.cells (timR.cells x).toArray 54)) (.cells (timR.cells y).toArray 54)
  have hs : (w.alloc (.cells (timR.cells x).toArray 54)).heap.size = w.heap.size + 1 := by simp
  have hb12 : Below (w.alloc (.cells (timR.cells x).toArray 54)).heap.size (w.alloc (.cells (timR.cells x).toArray 54)) ((w.alloc (.cells (timR.cells x).toArray 54)).alloc (.cells (timR.cells y).toArray 54)) := (Below.refl _ _).alloc (Nat.le_refl _) _
  have r1 := below_range hb12 (row_reads (R := timR) x hn1)
  have r2 := row_reads (R := timR) y hn2
  rw [hs] at r2
  obtain ⟨W1, hW1⟩ : ∃ W1, W1 = (w.alloc (.cells (timR.cells x).toArray 54)).alloc (.cells (timR.cells y).toArray 54) := ⟨_, rfl⟩
  rw [← hW1] at hb2 r1 r2
  have a0 : W1.cell? ⟨w.heap.size, 0, none⟩ = some (.int .i64 x.k) := r1 0 _ rfl
  have a1 : W1.cell? ⟨w.heap.size, 1, none⟩ = some (.int .i64 x.id) := r1 1 _ rfl
  have a2 : W1.cell? ⟨w.heap.size, 2, none⟩ = some (.int .u64 (x.t : Int)) := r1 2 _ rfl
  have b0 : W1.cell? ⟨w.heap.size + 1, 0, none⟩ = some (.int .i64 y.k) := r2 0 _ rfl
  have b1 : W1.cell? ⟨w.heap.size + 1, 1, none⟩ = some (.int .i64 y.id) := r2 1 _ rfl
  have b2 : W1.cell? ⟨w.heap.size + 1, 2, none⟩ = some (.int .u64 (y.t : Int)) := r2 2 _ rfl
  have HB := Lib.hid hb2
  clear hb1 hb2 hn1 hn2 hs hb12 r1 r2
  by_cases ht : y.t < x.t
  · have q1 : decide ((y.t : Int) < (x.t : Int)) = true := by simp; omega
    have q1' : decide (y.t < x.t) = true := by simp; omega
    have e0 := Lib.hid (show befT y x = true from by rw [bef_iff]; omega)
    clear ht
    go_enter Try.func32, Try.ntmps32
    go_upto_region 1 with fail
    show Code.wp _ _ _ _ ((w.alloc (.cells (timR.cells x).toArray 54)).alloc (.cells (timR.cells y).toArray 54))
    rw [← hW1]
    clear hW1
    go_wp2_with fail
    go_ret
    exact ⟨by rw [e0.out]; rfl, HB.out⟩
  · have q1 : decide ((y.t : Int) < (x.t : Int)) = false := by simp; omega
    have q1' : decide (y.t < x.t) = false := by simp; omega
    by_cases ht2 : x.t = y.t
    · have q2 : ((x.t : Int) == (y.t : Int)) = true := by simp [ht2]
      by_cases hk : y.k < x.k
      · have q3 : decide (y.k < x.k) = true := by simp [hk]
        have e0 := Lib.hid (show befT y x = true from by rw [bef_iff]; omega)
        clear ht ht2 hk
        go_enter Try.func32, Try.ntmps32
        go_upto_region 1 with fail
        show Code.wp _ _ _ _ ((w.alloc (.cells (timR.cells x).toArray 54)).alloc (.cells (timR.cells y).toArray 54))
        rw [← hW1]
        clear hW1
        go_wp2_with fail
        go_ret
        exact ⟨by rw [e0.out]; rfl, HB.out⟩
      · have q3 : decide (y.k < x.k) = false := by simp; omega
        by_cases hk2 : x.k = y.k
        · have q4 : (x.k == y.k) = true := by simp [hk2]
          have e0 := Lib.hid (show befT y x = decide (y.id < x.id) from by unfold befT; simp [ht2, hk2])
          clear ht ht2 hk hk2
          go_enter Try.func32, Try.ntmps32
          go_upto_region 1 with fail
          show Code.wp _ _ _ _ ((w.alloc (.cells (timR.cells x).toArray 54)).alloc (.cells (timR.cells y).toArray 54))
          rw [← hW1]
          clear hW1
          go_wp2_with fail
          go_ret
          exact ⟨by rw [e0.out]; rfl, HB.out⟩
        · have q4 : (x.k == y.k) = false := by simp [hk2]
          have e0 := Lib.hid (show befT y x = false from by rw [bef_no]; omega)
          clear ht ht2 hk hk2
          go_enter Try.func32, Try.ntmps32
          go_upto_region 1 with fail
          show Code.wp _ _ _ _ ((w.alloc (.cells (timR.cells x).toArray 54)).alloc (.cells (timR.cells y).toArray 54))
          rw [← hW1]
          clear hW1
          go_wp2_with fail
          go_ret
          exact ⟨by rw [e0.out]; rfl, HB.out⟩
    · have q2 : ((x.t : Int) == (y.t : Int)) = false := by simp; omega
      have e0 := Lib.hid (show befT y x = false from by rw [bef_no]; omega)
      clear ht ht2
      go_enter Try.func32, Try.ntmps32
      go_upto_region 1 with fail
      show Code.wp _ _ _ _ ((w.alloc (.cells (timR.cells x).toArray 54)).alloc (.cells (timR.cells y).toArray 54))
      rw [← hW1]
      clear hW1
      go_wp2_with fail
      go_ret
      exact ⟨by rw [e0.out]; rfl, HB.out⟩
/-- A due that is new, and the last timer that it told, in a block of its own. -/
def Ord (w wr : World) (d now : Nat) (M : List Tm) (b : Nat) (x : Tm) : Prop := ∃ T : Nat → Prop, Below w.heap.size w wr ∧ (∀ k, T k → w.heap.size ≤ k) ∧ DueT T wr d now M ∧ ¬ T b ∧ w.heap.size ≤ b ∧ wr.heap[b]? = some (.cells #[.int .i64 x.k, .int .i64 x.id, .int .u64 (x.t : Int)] 54 (0, 0))
namespace Ord
variable {w wr w' : World} {d now b : Nat} {M : List Tm} {x : Tm}
theorem below' (h : Ord w wr d now M b x) (hb : Below wr.heap.size wr w') : Ord w w' d now M b x := by
  obtain ⟨T, h1, h2, h3, h4, h5, h6⟩ := h
  exact ⟨T, bthen' h1 hb, h2, h3.below hb, h4, h5, (hb.block b (Array.getElem?_eq_some_iff.1 h6).1).trans h6⟩
theorem low (h : Ord w wr d now M b x) : Below w.heap.size w wr := h.elim fun _ h => h.1
theorem row (h : Ord w wr d now M b x) : wr.heap[b]? = some (.cells #[.int .i64 x.k, .int .i64 x.id, .int .u64 (x.t : Int)] 54 (0, 0)) := h.elim fun _ h => h.2.2.2.2.2
theorem dueS (h : Ord w wr d now M b x) : DueS w wr d now M := h.elim fun T h => ⟨T, h.1, h.2.1, h.2.2.1⟩
theorem nod (h : Ord w wr d now M b x) : (M.map fun x => (x.k, x.id)).Nodup := h.elim fun _ h => h.2.2.1.nod
theorem set (h : Ord w wr d now M b x) (y : Tm) : Ord w (wr.setRow b #[.int .i64 y.k, .int .i64 y.id, .int .u64 (y.t : Int)]) d now M b y := by
  obtain ⟨T, h1, h2, h3, h4, h5, h6⟩ := h
  exact ⟨T, below_row h1 h5 _, h2, h3.updP (setRow_updP wr b _) (fun k hk h9 => by subst hk; exact h4 h9), h4, h5, setRow_heap _ h6⟩
end Ord
theorem DueS.ord {w wc : World} {d now : Nat} {M : List Tm} (h : DueS w wc d now M) :
    Ord w ((wc.alloc (.cells #[.int .i64 0, .int .i64 0, .int .u64 0] 54)).setRow wc.heap.size #[.int .i64 0, .int .i64 0, .int .u64 0]) d now M wc.heap.size zeroTm := by
  obtain ⟨T, h1, h2, h3⟩ := h
  have hb : Below wc.heap.size wc ((wc.alloc (.cells #[.int .i64 0, .int .i64 0, .int .u64 0] 54)).setRow wc.heap.size #[.int .i64 0, .int .i64 0, .int .u64 0]) := below_row ((Below.refl _ _).alloc (Nat.le_refl _) _) (Nat.le_refl _) _
  exact ⟨T, bthen' h1 hb, h2, h3.below hb, fun h9 => by have := h3.lt _ h9; omega, h1.size, setRow_heap _ (heap_alloc_new _ _)⟩
def oFirstP (w : World) (d now : Nat) (M : List Tm) (b : Nat) (x : Tm) (to2 : Nat) (e : Ending) (w' : World) : Prop :=
  (((M = [] ∨ ∃ y ∈ M, (∀ z ∈ M, befT z y = false) ∧ to2 < y.t) ∧ e = .returned (.tuple #[timR.val zeroTm, .bool false]) ∧ Ord w w' d now M b x)) ∨
  ∃ (n : Nat) (y : Tm), M[n]? = some y ∧ (∀ z ∈ M, befT z y = false) ∧ y.t ≤ to2 ∧ e = .returned (.tuple #[timR.val y, .bool true]) ∧ Ord w w' d (max now y.t) (M.eraseIdx n) b x
theorem ofirst {w wr : World} {d now b : Nat} {M : List Tm} {x : Tm} (h : Ord w wr d now M b x) (to2 : Nat) (hto : to2 < 18446744073709551616) (hM : M.length ≤ 20000) :
    Calls Try.prog 29 #[.pointer (some ⟨d, 0, none⟩), .int .u64 (to2 : Int)] wr (oFirstP w d now M b x to2) := by
  obtain ⟨T, h1, h2, h3, h4, h5, h6⟩ := h
  have hst : ∀ {w' : World} {now2 : Nat} {M2 : List Tm}, UpdP T wr w' → DueT (Gr T wr w') w' d now2 M2 → Ord w w' d now2 M2 b x := fun {w' now2 M2} hu hd => by
    have hs := h1.size
    have hl := (Array.getElem?_eq_some_iff.1 h6).1
    refine ⟨_, hu.toB h1 hs h2, fun k hk => ?_, hd, fun h9 => ?_, h5, (hu.block b hl h4).trans h6⟩
    · rcases hk with h9 | h9
      · exact h2 k h9
      · omega
    · rcases h9 with h9 | h9
      · exact h4 h9
      · omega
  refine (mfirst h3 to2 hto hM).mono ?_
  rintro e w' (⟨c, rfl, hu, hd⟩ | ⟨n, y, hy, hm, hto, rfl, hu, hd⟩)
  · exact .inl ⟨c, rfl, hst hu hd⟩
  · exact .inr ⟨n, y, hy, hm, hto, rfl, hst hu hd⟩
theorem ofirst_no {w wr : World} {d now b : Nat} {M : List Tm} {x : Tm} (h : Ord w wr d now M b x) (to2 : Nat) (hto : to2 < 18446744073709551616) (hM : M.length ≤ 20000) (hno : ∀ z ∈ M, to2 < z.t) :
    Calls Try.prog 29 #[.pointer (some ⟨d, 0, none⟩), .int .u64 (to2 : Int)] wr fun e w' => e = .returned (.tuple #[timR.val zeroTm, .bool false]) ∧ Ord w w' d now M b x := by
  refine (ofirst h to2 hto hM).mono ?_
  rintro e w' (⟨c, rfl, hO⟩ | ⟨n, y, hy, hm, hle, rfl, hO⟩)
  · exact ⟨rfl, hO⟩
  · have := hno y (List.mem_of_getElem? hy); omega
theorem ofirst_yes {w wr : World} {d now b : Nat} {M : List Tm} {x : Tm} (h : Ord w wr d now M b x) (to2 : Nat) (hto : to2 < 18446744073709551616) (hM : M.length ≤ 20000) (n : Nat) (y : Tm) (hy : M[n]? = some y) (hm : ∀ z ∈ M, befT z y = false) (hle : y.t ≤ to2) :
    Calls Try.prog 29 #[.pointer (some ⟨d, 0, none⟩), .int .u64 (to2 : Int)] wr fun e w' => e = .returned (.tuple #[timR.val y, .bool true]) ∧ Ord w w' d (max now y.t) (M.eraseIdx n) b x := by
  have hnod := h.nod
  refine (ofirst h to2 hto hM).mono ?_
  rintro e w' (⟨c, rfl, hd⟩ | ⟨n2, y2, hy2, hm2, hto2, rfl, hd⟩)
  · exfalso
    rcases c with rfl | ⟨y2, hy2, hm2, h9⟩
    · simp at hy
    · obtain ⟨n2, hn2, he2⟩ := List.mem_iff_getElem.1 hy2
      obtain ⟨-, rfl⟩ := least_one hnod hy hm (by rw [List.getElem?_eq_getElem hn2, he2]) hm2
      omega
  · obtain ⟨rfl, rfl⟩ := least_one hnod hy hm hy2 hm2
    exact ⟨rfl, hd⟩
def setE (k i : Int) : Int := if mayB k i = true then 0 else 1
theorem sset2 {w wr : World} {d now : Nat} {M : List Tm} (h : DueS w wr d now M) (k i : Int) (t : Nat) (ht : t < 18446744073709551616) (hM : M.length ≤ 20000) :
    Calls Try.prog 27 #[.pointer (some ⟨d, 0, none⟩), .int .i64 k, .int .i64 i, .int .u64 (t : Int)] wr fun e w' => e = .returned (.int .i64 (setE k i)) ∧ DueS w w' d now (dsetT M k i t) := sset h k i t ht hM
theorem slen {w wr : World} {d now : Nat} {M : List Tm} (h : DueS w wr d now M) (hM : M.length ≤ 20000) :
    Calls Try.prog 28 #[.pointer (some ⟨d, 0, none⟩)] wr fun e w' => e = .returned (.int .i64 (M.length : Int)) ∧ wr = w' := h.elim fun _ h => mlen h.2.2 hM
theorem snext {w wr : World} {d now : Nat} {M : List Tm} (h : DueS w wr d now M) (hM : M.length ≤ 20000) (m : Nat) (b : Bool) (hn : NextIs M m b) :
    Calls Try.prog 30 #[.pointer (some ⟨d, 0, none⟩)] wr (NextQ wr m b) := h.elim fun _ h => mnext h.2.2 hM m b hn
/-- Behind the first one all others come later. -/
theorem rest_later {M : List Tm} (hn : (M.map fun x => (x.k, x.id)).Nodup) {n : Nat} {y : Tm} (hy : M[n]? = some y) (hm : ∀ z ∈ M, befT z y = false) : ∀ z ∈ M.eraseIdx n, befT y z = true := by
  intro z hz
  rw [bef_iff]
  have h1 := (bef_no _ _).1 (hm z (List.mem_of_mem_eraseIdx hz))
  have hne : ¬ (z.k = y.k ∧ z.id = y.id) := by
    rintro ⟨e1, e2⟩
    obtain ⟨j, hj, he⟩ := List.mem_iff_getElem.1 hz
    obtain ⟨hl, hye⟩ := List.getElem?_eq_some_iff.1 hy
    have hp := List.pairwise_iff_getElem.1 (List.pairwise_map.1 hn)
    rw [List.getElem_eraseIdx] at he
    split at he
    · rename_i hjn
      have := hp j n (by omega) hl hjn
      rw [hye, he] at this
      exact this (by rw [e1, e2])
    · rename_i hjn
      have hl2 : j + 1 < M.length := by rw [List.length_eraseIdx] at hj; split at hj <;> omega
      have := hp n (j + 1) hl hl2 (by omega)
      rw [hye, he] at this
      exact this (by rw [e1, e2])
  omega
theorem erase_len1 {M : List Tm} {n : Nat} {y : Tm} (hy : M[n]? = some y) : (M.eraseIdx n).length + 1 = M.length := by
  obtain ⟨hl, -⟩ := List.getElem?_eq_some_iff.1 hy
  rw [List.length_eraseIdx, if_pos hl]
  omega
theorem dset_len (M : List Tm) (k i : Int) (t : Nat) : (dsetT M k i t).length ≤ M.length + 1 := by
  unfold dsetT
  have := clr_len M k i
  split
  · simp; exact this
  · omega
end Go.Proofs.Ytkbjlpdmmbldpaa
