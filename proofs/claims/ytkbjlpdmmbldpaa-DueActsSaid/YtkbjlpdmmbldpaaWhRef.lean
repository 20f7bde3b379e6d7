/- The document's wheel in memory; its At. -/
import Derived.Test.YtkbjlpdmmbldpaaWhPiece
set_option linter.unusedVariables false
set_option linter.unusedSimpArgs false
set_option maxRecDepth 100000
namespace Go.Proofs.Ytkbjlpdmmbldpaa
open Go.RowKit

theorem wRow : (Try.prog.info? 37).map (·.size) = some 2 := by kernel_rfl
theorem tim_t {w : World} {b o k : Nat} {x : Tm} (h : w.rangeAt b (o + k * timR.n) (timR.cells x)) : w.cell? ⟨b, o + k * 3 + 2, none⟩ = some (.int .u64 (x.t : Int)) := by have := h 2 _ rfl; simpa [timR] using this
/-- The document's wheel in memory, in the blocks of G. -/
structure RW (G : Nat → Prop) (w : World) (r now : Nat) (L : List Tm) : Prop where
  mem : ∃ v, Cel w r [.int .u64 (now : Int), v] ∧ G r ∧ Owns timR 0 w v L ∧ ∀ k, v.ownBlock = some k → G k ∧ k ≠ r
  lt : ∀ k, G k → k < w.heap.size
namespace RW
variable {G P : Nat → Prop} {w w' : World} {r now : Nat} {L : List Tm}
theorem updP (h : RW G w r now L) (hu : UpdP P w w') (hP : ∀ k, P k → ¬ G k) : RW G w' r now L := by
  obtain ⟨⟨v, h1, h2, h3, h4⟩, h5⟩ := h
  exact ⟨⟨v, cel_updP h1 hu (fun h9 => hP _ h9 h2) (h5 _ h2), h2, owns_keepsR h3 (fun k hk => hu.block k (h3.lt k hk).2 (fun h9 => hP _ h9 (h4 k hk).1)), h4⟩, fun k hk => Nat.lt_of_lt_of_le (h5 k hk) hu.size⟩
theorem below (h : RW G w r now L) (hb : Below w.heap.size w w') : RW G w' r now L := h.updP (P := fun _ => False) (UpdP.ofB hb) (fun _ hk => hk.elim)
end RW
theorem got_at_none {L : List Tm} {i : Int} (h : ∀ y ∈ L, y.id ≠ i) : gotT L i = none := gotT_none.2 h
theorem got_at {L : List Tm} {i : Int} {k : Nat} {x : Tm} (h : ∀ y ∈ L.take k, y.id ≠ i) (hx : L[k]? = some x) (hi : x.id = i) : gotT L i = some x := by
  obtain ⟨hk, he⟩ := List.getElem?_eq_some_iff.1 hx
  unfold gotT
  rw [List.find?_eq_some_iff_getElem]
  refine ⟨decide_eq_true hi, k, hk, he, fun j hj => ?_⟩
  have hm : L[j]'(by omega) ∈ L.take k := by
    rw [List.mem_take_iff_getElem]
    exact ⟨j, by omega, rfl⟩
  simpa using h _ hm
def tOf (L : List Tm) (i : Int) : Nat := match gotT L i with | some x => x.t | none => 0
def RAtP (w : World) (L : List Tm) (i : Int) (e : Ending) (w' : World) : Prop := e = .returned (.tuple #[.int .u64 (tOf L i : Int), .bool (gotT L i).isSome]) ∧ Below w.heap.size w w'

set_option maxHeartbeats 2000000 in
theorem rat_any (w : World) (now : Nat) (v : Value) (L : List Tm) (i : Int) (hv : Reads timR w v L) (hL : L.length ≤ 100000) :
    Calls Try.prog 47 #[.agg #[.int .u64 (now : Int), v], .int .i64 i] w (RAtP w L i) := by
  obtain ⟨av, cv, rfl⟩ := hv.form
  have hb : Below w.heap.size w (w.alloc (.cells [.int .u64 (now : Int), .slice av L.length cv].toArray 37)) := (Below.refl _ _).alloc (Nat.le_refl _) _
  have hC := Cel.new w 37 [.int .u64 (now : Int), .slice av L.length cv]
  obtain ⟨W1, hW1⟩ : ∃ W1, W1 = w.alloc (.cells [.int .u64 (now : Int), .slice av L.length cv].toArray 37) := ⟨_, rfl⟩
  rw [← hW1] at hb hC
  have HV := Lib.hid (hv.below hb)
  have HB := Lib.hid hb
  have c1 := hC.get (i := 1) rfl
  clear hv hC hb
  go_enter Try.func47, Try.ntmps47
  go_upto_region 1 with fail
  show Code.wp _ _ _ _ (w.alloc (.cells [.int .u64 (now : Int), .slice av L.length cv].toArray 37))
  rw [← hW1]
  clear hW1
  go_wp2_with fail
  go_loopw [6] (fun j wr => ∃ k : Nat, k ≤ L.length ∧ j = .int .i64 k ∧ wr = W1 ∧ Hid (∀ y ∈ L.take k, y.id ≠ i)) (fun j _ => L.length - (intOf j).toNat)
  case atStart => exact ⟨0, by omega, rfl, rfl, Lib.hid (by simp)⟩
  case round =>
    obtain ⟨k, hk, rfl, rfl, hE⟩ := hrel
    by_cases hlt : k < L.length
    · obtain ⟨x, hx⟩ : ∃ x, L[k]? = some x := ⟨_, List.getElem?_eq_getElem hlt⟩
      obtain ⟨b1, o1, rfl, r1⟩ := HV.out.at hx
      have HX := Lib.hid hx
      have c2 := tim_id r1
      have c3 := tim_t r1
      clear hx r1
      by_cases hxi : x.id = i
      · have hxb : (x.id == i) = true := by simp [hxi]
        have HP := Lib.hid (got_at hE.out HX.out hxi)
        clear hxi hE
        go_wp2_with fail
        go_ret2
        exact ⟨by unfold tOf; rw [HP.out]; rfl, HB.out⟩
      · have hxb : (x.id == i) = false := by simp [hxi]
        have HE2 : Hid (∀ y ∈ L.take (k + 1), y.id ≠ i) := Lib.hid (by
          rw [← take_snoc HX.out]
          intro y hy
          rcases List.mem_append.1 hy with hy | hy
          · exact hE.out y hy
          · simp at hy; subst hy; exact hxi)
        clear hxi
        go_wp2_with fail
        go_roundw
        case rel => exact ⟨k + 1, by omega, by go_num, by first | rfl | trivial, HE2⟩
        case measure => simp [intOf]; omega
    · obtain rfl : k = L.length := by omega
      have HP := Lib.hid (got_at_none (by have := hE.out; rwa [List.take_length] at this))
      clear hE
      go_wp2_with fail
      go_ret2
      exact ⟨by unfold tOf; rw [HP.out]; rfl, HB.out⟩
def RPutP (G : Nat → Prop) (w : World) (r now : Nat) (L : List Tm) (i : Int) (t : Nat) (e : Ending) (w' : World) : Prop :=
  e = .returned (.int .i64 (putE L i)) ∧ UpdP G w w' ∧ RW (Gr G w w') w' r now (putT L i t)
theorem RW.same {G : Nat → Prop} {w w' : World} {r now : Nat} {L : List Tm} (h : RW G w r now L) (hb : Below w.heap.size w w') : RW (Gr G w w') w' r now L := by
  obtain ⟨⟨v, h1, h2, h3, h4⟩, h5⟩ := h.below hb
  have := hb.size
  exact ⟨⟨v, h1, .inl h2, h3, fun k hk => ⟨.inl (h4 k hk).1, (h4 k hk).2⟩⟩, fun k hk => by rcases hk with hk | hk; exact h5 k hk; exact hk.2⟩

set_option maxHeartbeats 2000000 in
theorem rput_any {G : Nat → Prop} {w : World} {r now : Nat} {L : List Tm} (h : RW G w r now L) (i : Int) (t : Nat) (hL : L.length ≤ 100000) :
    Calls Try.prog 18 #[.pointer (some ⟨r, 0, none⟩), .int .i64 i, .int .u64 (t : Int)] w (RPutP G w r now L i t) := by
  have H := Lib.hid h
  obtain ⟨⟨v, h1, h2, h3, h4⟩, h5⟩ := h
  obtain ⟨av, cv, rfl⟩ := h3.form
  have hr := h1.range
  by_cases hi : i < 0
  · have e0 := Lib.hid (show putE L i = 1 from by unfold putE; rw [if_pos hi])
    have hib : decide (i < 0) = true := by simp [hi]
    clear h1 h3
    go_enter Try.func18, Try.ntmps18
    go_wp2_with fail
    all_goals try (exfalso; omega)
    go_ret
    exact ⟨by rw [e0.out]; rfl, UpdP.ofB (Below.refl _ _), by unfold putT; rw [e0.out, if_neg (by decide)]; exact H.out.same (Below.refl _ _)⟩
  · have hib : decide (i < 0) = false := by simp; omega
    have KA := Lib.hid (rat_any w now _ L i (h3.lts timOk) hL)
    cases hg : (gotT L i).isSome with
    | true =>
      have e0 := Lib.hid (show putE L i = 8 from by unfold putE; rw [if_neg hi, if_pos hg])
      unfold RAtP at KA
      rw [hg] at KA
      clear h1 h3 hg
      go_enter Try.func18, Try.ntmps18
      go_wp2_with (first
        | (refine wpList_load_mid rfl 37 _ rfl r 0 rfl [.int .u64 (now : Int), .slice av L.length cv] _ hr Try.underlying37 rfl wRow ?_)
        | (go_at_call 47; refine KA.out.mono ?_; rintro e W2 ⟨rfl, hb2⟩))
      go_ret
      exact ⟨by rw [e0.out]; rfl, UpdP.ofB hb2, by unfold putT; rw [e0.out, if_neg (by decide)]; exact H.out.same hb2⟩
    | false =>
      have e0 := Lib.hid (show putE L i = 0 from by unfold putE; rw [if_neg hi, if_neg (by rw [hg]; decide)])
      unfold RAtP at KA
      rw [hg] at KA
      have H1 := Lib.hid h1
      have H3 := Lib.hid h3
      clear h1 h3 hg
      go_enter Try.func18, Try.ntmps18
      go_upto_region 4 with (first
        | (refine wpList_load_mid rfl 37 _ rfl r 0 rfl [.int .u64 (now : Int), .slice av L.length cv] _ hr Try.underlying37 rfl wRow ?_)
        | (go_at_call 47; refine KA.out.mono ?_; rintro e W2 ⟨rfl, hb2⟩))
      have c1 := (H1.out.below hb2).get (i := 1) rfl
      have hz2 := hb2.size
      go_wp2_with (first
        | (refine wl_build_rec timOk rfl _ rfl ⟨0, i, t⟩ rfl ?_; have hx5 := built_range (R := timR) (w := W2) ⟨0, i, t⟩; have hb5 : Below W2.heap.size W2 (W2.alloc (.cells (timR.val ⟨0, i, t⟩).cells timR.ty)) := (Below.refl _ _).alloc (Nat.le_refl _) _; generalize W2.alloc (.cells (timR.val ⟨0, i, t⟩).cells timR.ty) = W5 at hx5 hb5 ⊢; have hb25 := bthen' hb2 hb5; have hO5 := H3.out.below hb25)
        | (refine wl_append_rec timOk rfl _ _ rfl 0 _ L rfl hO5 W2.heap.size 0 1 ⟨0, i, t⟩ rfl hx5 (by omega) (by omega) ?_; intro g cap W6 hO6 hg6 hat6; have hC6 : Hid (Cel W6 r [.int .u64 (now : Int), .slice av L.length cv]) := Lib.hid (cel_of_heap (H1.out.below hb25) (hg6.block r (Nat.lt_of_lt_of_le (H.out.lt r h2) hb25.size) (fun e9 => (h4 r e9.symm).2 rfl))); have c6 := hC6.out.get (i := 1) rfl; have c6f := hC6.out.free (i := 1) rfl))
      go_ret
      have hs6 := hg6.size
      have hs25 := hb25.size
      have hw6 : (W6.setCell ⟨r, 1, none⟩ (.slice (some ⟨g, 0, none⟩) (L.length + 1) cap)).heap.size = W6.heap.size := by simp [World.setCell]
      have hgr : g ≠ r := by
        rcases hat6 with e9 | e9
        · exact (h4 g e9).2
        · have := H.out.lt r h2; omega
      have hU : UpdP G w (W6.setCell ⟨r, 1, none⟩ (.slice (some ⟨g, 0, none⟩) (L.length + 1) cap)) := by
        have hu5 : UpdP G w W5 := UpdP.ofB hb25
        have hu6 : UpdP G w W6 := wt_gr hu5 ⟨hg6.os, hg6.tape, hg6.output, hg6.size, fun k hk hn => hg6.block k hk (fun e9 => hn (h4 k e9.symm).1)⟩
        exact wt_gr hu6 (UpdP.of ((Upd.refl [r] _).setCell (by simp) _) (fun k hk => by simp at hk; subst hk; exact .inl h2))
      refine ⟨by rw [e0.out]; rfl, hU, ⟨⟨_, hC6.out.set 1 _, .inl h2, ?_, ?_⟩, ?_⟩⟩
      · rw [show putT L i t = L ++ [⟨0, i, t⟩] from by unfold putT; rw [e0.out, if_pos rfl]]
        exact hO6.upd ((Upd.refl [r] _).setCell (by simp) _) (fun k hk => by cases hk; simpa using hgr)
      · intro k hk
        cases hk
        refine ⟨?_, hgr⟩
        rcases hat6 with e9 | e9
        · exact .inl (h4 g e9).1
        · have := (hO6.lt g rfl).2
          exact .inr ⟨by show w.heap.size ≤ g; omega, by rw [hw6]; exact this⟩
      · intro k hk
        rcases hk with hk | hk
        · have := H.out.lt k hk; rw [hw6]; omega
        · exact hk.2
end Go.Proofs.Ytkbjlpdmmbldpaa
