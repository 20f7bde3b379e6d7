/- The document's wheel: Drop, Next. -/
import Derived.Test.YtkbjlpdmmbldpaaWhRef
set_option linter.unusedVariables false
set_option linter.unusedSimpArgs false
set_option maxRecDepth 100000
namespace Go.Proofs.Ytkbjlpdmmbldpaa
open Go.RowKit

theorem but_lt (L : List Tm) (i : Int) : decide ((butT L i).length < L.length) = (gotT L i).isSome := by
  cases hg : gotT L i with
  | none => rw [butT_none hg]; simp
  | some x =>
    obtain ⟨hx, hi⟩ := gotT_mem hg
    have : (butT L i).length < L.length := by
      have hle : (butT L i).length ≤ L.length := List.length_filter_le _ _
      rcases Nat.lt_or_eq_of_le hle with h | h
      · exact h
      · have := (List.length_filter_eq_length_iff.1 h) x hx
        exact absurd hi (of_decide_eq_true this)
    simp; omega
theorem but_skip {L : List Tm} {i : Int} {k : Nat} {x : Tm} (hx : L[k]? = some x) (h : x.id = i) : butT (L.take k) i = butT (L.take (k + 1)) i := by
  rw [← take_snoc hx]
  unfold butT
  rw [List.filter_append, List.filter_cons, decide_eq_false (by simp [h])]
  simp
theorem but_add {L : List Tm} {i : Int} {k : Nat} {x : Tm} (hx : L[k]? = some x) (h : x.id ≠ i) : butT (L.take (k + 1)) i = butT (L.take k) i ++ [x] := by
  rw [← take_snoc hx]
  unfold butT
  rw [List.filter_append, List.filter_cons, decide_eq_true h]
  simp
def RDropP (G : Nat → Prop) (w : World) (r now : Nat) (L : List Tm) (i : Int) (e : Ending) (w' : World) : Prop :=
  e = .returned (.bool (gotT L i).isSome) ∧ UpdP G w w' ∧ RW (Gr G w w') w' r now (butT L i)

set_option maxHeartbeats 2000000 in
theorem rdrop_any {G : Nat → Prop} {w : World} {r now : Nat} {L : List Tm} (h : RW G w r now L) (i : Int) (hL : L.length ≤ 100000) :
    Calls Try.prog 20 #[.pointer (some ⟨r, 0, none⟩), .int .i64 i] w (RDropP G w r now L i) := by
  have H := Lib.hid h
  obtain ⟨⟨v, h1, h2, h3, h4⟩, h5⟩ := h
  obtain ⟨av, cv, rfl⟩ := h3.form
  have H1 := Lib.hid h1
  have HV := Lib.hid (h3.lts timOk)
  clear h1 h3
  have hO2 := Owns.made (R := timR) (B := w.heap.size) (w := w) (Nat.le_refl _)
  have hb3 : Below w.heap.size w (w.alloc (.cells #[] timR.ty)) := (Below.refl _ _).alloc (Nat.le_refl _) _
  obtain ⟨W1, hW1⟩ : ∃ W1, W1 = w.alloc (.cells #[] timR.ty) := ⟨_, rfl⟩
  obtain ⟨nv, hnv⟩ : ∃ nv : Value, nv = .slice (some ⟨w.heap.size, 0, none⟩) 0 0 := ⟨_, rfl⟩
  rw [← hW1] at hO2 hb3
  have HO2 := Lib.hid hO2
  have HB3 := Lib.hid hb3
  clear hO2 hb3 hnv
  go_enter Try.func20, Try.ntmps20
  go_upto_block 0 with fail
  show Code.wp _ _ _ _ (w.alloc (.cells #[] timR.ty))
  rw [← hW1]
  clear hW1
  go_wp2_with fail
  go_loopw [5, 6] (fun n j wr => ∃ q : Nat, q ≤ L.length ∧ j = .int .i64 q ∧ Below w.heap.size w wr ∧ Owns timR w.heap.size wr n (butT (L.take q) i)) (fun n j _ => L.length - (intOf j).toNat)
  case atStart => exact ⟨0, by omega, rfl, HB3.out, by simpa [butT] using HO2.out⟩
  case round =>
    obtain ⟨q, hq, rfl, hW, hO⟩ := hrel
    have HO := Lib.hid hO
    have hwr := hW.size
    have c1 := (H1.out.below hW).get (i := 1) rfl
    have c1f := (H1.out.below hW).free (i := 1) rfl
    clear hO
    by_cases hlt : q < L.length
    · obtain ⟨y, hy⟩ : ∃ y, L[q]? = some y := ⟨_, List.getElem?_eq_getElem hlt⟩
      obtain ⟨b, off, rfl, hr2⟩ := (HV.out.below hW).at hy
      have c2 := tim_id hr2
      have hl2 : (butT (L.take q) i).length ≤ q := by
        have := List.length_filter_le (fun x : Tm => decide (x.id ≠ i)) (L.take q)
        simp only [List.length_take] at this
        unfold butT; omega
      by_cases hqi : y.id = i
      · have hqb : (y.id != i) = false := by simp [hqi]
        have T := Lib.hid (but_skip hy hqi)
        clear hy hqi hr2
        go_wp2_with fail
        go_roundw
        case rel => exact ⟨q + 1, by omega, by go_num, hW, by rw [← T.out]; exact HO.out⟩
        case measure => simp [intOf]; omega
      · have hqb : (y.id != i) = true := by simp [hqi]
        have T := Lib.hid (but_add hy hqi).symm
        clear hy hqi
        go_wp2_with (first
          | (refine wpList_load_mid rfl 54 _ rfl b (off + q * timR.n) rfl (timR.cells y) _ hr2 Try.underlying54 rfl (timOk.row y) ?_)
          | (refine wl_build_rec timOk rfl _ rfl y rfl ?_; have hx5 := built_range (R := timR) (w := wr) y; have hb5 : Below wr.heap.size wr (wr.alloc (.cells (timR.val y).cells timR.ty)) := (Below.refl _ _).alloc (Nat.le_refl _) _; generalize wr.alloc (.cells (timR.val y).cells timR.ty) = W5 at hx5 hb5 ⊢; have hOo := HO.out.below hb5; have hszT := hb5.size)
          | (refine wl_append_rec timOk rfl _ _ rfl w.heap.size _ (butT (L.take q) i) rfl hOo wr.heap.size 0 1 y rfl hx5 (by omega) (by omega) ?_; intro g cap W6 hO6 hg6 hat6))
        rw [T.out] at hO6
        have hW6 := (bthen' hW hb5).grown hg6 (by omega) (fun k hk => (hOo.lt k hk).1)
        go_roundw
        case rel => exact ⟨q + 1, by omega, by go_num, hW6, hO6⟩
        case measure => simp [intOf]; omega
    · obtain rfl : q = L.length := by omega
      have hO := HO.out
      rw [List.take_length] at hO
      obtain ⟨a6, cap6, rfl⟩ := hO.form
      have HO2 := Lib.hid hO
      have eB := Lib.hid (but_lt L i)
      clear HO hO
      go_wp2_with fail
      go_ret
      have hlow := HO2.out.lt
      have hw6 : (wr.setCell ⟨r, 1, none⟩ (.slice a6 (butT L i).length cap6)).heap.size = wr.heap.size := by simp [World.setCell]
      have hrl := H.out.lt r h2
      have hU : UpdP G w (wr.setCell ⟨r, 1, none⟩ (.slice a6 (butT L i).length cap6)) := wt_gr (UpdP.ofB hW) (UpdP.of ((Upd.refl [r] _).setCell (by simp) _) (fun k hk => by simp at hk; subst hk; exact .inl h2))
      refine ⟨by rw [← eB.out]; rfl, hU, ⟨⟨_, (H1.out.below hW).set 1 _, .inl h2, ?_, ?_⟩, ?_⟩⟩
      · exact (HO2.out.mono (Nat.zero_le _)).upd ((Upd.refl [r] _).setCell (by simp) _) (fun k hk => by have := (hlow k hk).1; simp; omega)
      · intro k hk
        have := hlow k hk
        exact ⟨.inr ⟨this.1, by rw [hw6]; exact this.2⟩, by omega⟩
      · intro k hk
        rcases hk with hk | hk
        · have := H.out.lt k hk; rw [hw6]; omega
        · exact hk.2
structure MinAt (L : List Tm) (k m : Nat) : Prop where
  ex : ∃ x ∈ L.take k, x.t = m
  le : ∀ x ∈ L.take k, m ≤ x.t
theorem MinAt.step {L : List Tm} {k m : Nat} {x : Tm} (h : MinAt L k m) (hx : L[k]? = some x) : MinAt L (k + 1) (min m x.t) := by
  refine ⟨?_, fun y hy => ?_⟩
  · rcases Nat.le_total m x.t with h9 | h9
    · obtain ⟨y, hy, he⟩ := h.ex
      exact ⟨y, by rw [← take_snoc hx]; exact List.mem_append_left _ hy, by rw [Nat.min_eq_left h9]; exact he⟩
    · exact ⟨x, by rw [← take_snoc hx]; simp, by rw [Nat.min_eq_right h9]⟩
  · rw [← take_snoc hx] at hy
    rcases List.mem_append.1 hy with hy | hy
    · have := h.le y hy; omega
    · simp at hy; subst hy; omega
set_option maxHeartbeats 2000000 in
theorem rnext_any (w : World) (now : Nat) (v : Value) (L : List Tm) (hv : Reads timR w v L) (hL : L.length ≤ 100000) :
    Calls Try.prog 51 #[.agg #[.int .u64 (now : Int), v]] w (NextP w L) := by
  obtain ⟨av, cv, rfl⟩ := hv.form
  have hb : Below w.heap.size w (w.alloc (.cells [.int .u64 (now : Int), .slice av L.length cv].toArray 37)) := (Below.refl _ _).alloc (Nat.le_refl _) _
  have hC := Cel.new w 37 [.int .u64 (now : Int), .slice av L.length cv]
  obtain ⟨W1, hW1⟩ : ∃ W1, W1 = w.alloc (.cells [.int .u64 (now : Int), .slice av L.length cv].toArray 37) := ⟨_, rfl⟩
  rw [← hW1] at hb hC
  have HV := Lib.hid (hv.below hb)
  have HB := Lib.hid hb
  have c1 := hC.get (i := 1) rfl
  clear hv hC hb
  by_cases hL0 : L = []
  · subst hL0
    go_enter Try.func51, Try.ntmps51
    go_upto_region 1 with fail
    show Code.wp _ _ _ _ (w.alloc (.cells [.int .u64 (now : Int), .slice av ([] : List Tm).length cv].toArray 37))
    rw [← hW1]
    clear hW1
    go_wp2_with fail
    go_ret2
    exact ⟨HB.out, .inl ⟨rfl, rfl⟩⟩
  · have hpos : 0 < L.length := List.length_pos_iff.2 hL0
    obtain ⟨x0, h0⟩ : ∃ x, L[0]? = some x := ⟨_, List.getElem?_eq_getElem hpos⟩
    have hl0 : ((L.length : Int) == 0) = false := by simp; omega
    clear hL0
    have HS : Hid (MinAt L 1 x0.t) := Lib.hid (by
      have e : L.take 1 = [x0] := by rw [← take_snoc h0]; rfl
      exact ⟨⟨x0, by rw [e]; simp, rfl⟩, fun y hy => by rw [e] at hy; simp at hy; subst hy; exact Nat.le_refl _⟩)
    obtain ⟨b1, o1, rfl, r1⟩ := HV.out.at h0
    have c3 := tim_t r1
    rw [Nat.zero_mul, Nat.add_zero] at c3
    clear h0 r1
    go_enter Try.func51, Try.ntmps51
    go_upto_region 1 with fail
    show Code.wp _ _ _ _ (w.alloc (.cells [.int .u64 (now : Int), .slice (some ⟨b1, o1, none⟩) L.length cv].toArray 37))
    rw [← hW1]
    clear hW1
    go_wp2_with fail
    clear c3
    go_loopw [4, 5] (fun n j wr => ∃ k m : Nat, 1 ≤ k ∧ k ≤ L.length ∧ n = .int .u64 (m : Int) ∧ j = .int .i64 k ∧ wr = W1 ∧ Hid (MinAt L k m)) (fun n j _ => L.length - (intOf j).toNat)
    case atStart => exact ⟨1, x0.t, by omega, by omega, rfl, rfl, rfl, HS⟩
    case round =>
      obtain ⟨k, m, hk1, hk, rfl, rfl, rfl, hE⟩ := hrel
      by_cases hlt : k < L.length
      · obtain ⟨x, hx⟩ : ∃ x, L[k]? = some x := ⟨_, List.getElem?_eq_getElem hlt⟩
        have r1 := HV.out.at hx
        obtain ⟨b2, o2, e2, r2⟩ := r1
        simp only [Value.slice.injEq, Option.some.injEq, Addr.mk.injEq, and_true] at e2
        obtain ⟨e3, e4⟩ := e2
        subst e3 e4
        have HE2 := Lib.hid (hE.out.step hx)
        have c4 := tim_t r2
        clear hx r2
        go_wp2_with fail
        go_roundw
        case rel => exact ⟨k + 1, min m x.t, by omega, by omega, by congr 1; omega, by go_num, by first | rfl | trivial, HE2⟩
        case measure => simp [intOf]; omega
      · obtain rfl : k = L.length := by omega
        have HE2 := hE.out
        have HE3 := Lib.hid (show (∃ x ∈ L, x.t = m) ∧ ∀ x ∈ L, m ≤ x.t from by have a := HE2.ex; have b := HE2.le; rw [List.take_length] at a b; exact ⟨a, b⟩)
        clear HE2 hE
        go_wp2_with fail
        go_ret2
        exact ⟨HB.out, .inr ⟨m, HE3.out.1, HE3.out.2, rfl⟩⟩
end Go.Proofs.Ytkbjlpdmmbldpaa
