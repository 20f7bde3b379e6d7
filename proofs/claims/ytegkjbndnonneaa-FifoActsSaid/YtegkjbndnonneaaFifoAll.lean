/- All; the reference's Push. -/
import Derived.Test.YtegkjbndnonneaaFifoPop
set_option linter.unusedVariables false
namespace Go.Proofs.Ytegkjbndnonneaa
open Go.RowKit

theorem all_none (w : World) : Calls Try.prog 16 #[.pointer none] w fun e w' => e = .returned (.slice none 0 0) ∧ w = w' := by
  go_enter Try.func16, Try.ntmps16
  go_wp2_with fail
  go_ret
  exact ⟨rfl, rfl⟩

def sliceLen : Value → Nat
  | .slice _ n _ => n
  | _ => 0
theorem its_take (G : List Lk) (k : Nat) : (its G).take k = its (G.take k) := by simp [its, List.map_take]

set_option maxRecDepth 100000 in
set_option maxHeartbeats 4000000 in
theorem all_any (w : World) (B p m : Nat) (G : List Lk) (h : Qu B w p m G) (hbig : G.length < 100000) :
    Calls Try.prog 16 #[.pointer (some ⟨p, 0, none⟩)] w (Gives w (its G)) := by
  have c0 := h.box.c0
  have HQ := Lib.hid h
  have hO1 := Owns.nil itR w.heap.size w
  clear h
  obtain ⟨o0, ho0⟩ : ∃ o, ptr G[0]? = .pointer o := ⟨_, rfl⟩
  rw [ho0] at c0
  have H0 := Lib.hid ho0
  clear ho0
  go_enter Try.func16, Try.ntmps16
  go_wp2_with fail
  go_loopw [3, 4] (fun u l wr => ∃ k : Nat, k ≤ G.length ∧ l = ptr G[k]? ∧ Below w.heap.size w wr ∧ Owns itR w.heap.size wr u ((its G).take k)) (fun u l _ => G.length - sliceLen u)
  case atStart => exact ⟨0, by omega, H0.out.symm, Below.refl _ _, hO1⟩
  case round =>
    clear hO1 c0
    obtain ⟨k, hk, hl, hW, hO⟩ := hrel
    have HO := Lib.hid hO
    have hwr := hW.size
    obtain ⟨a3, cap3, hf⟩ := hO.form
    have hlen : ((its G).take k).length = k := by rw [List.length_take, its_length]; omega
    rw [hlen] at hf
    subst hf
    clear hO
    have HL := Lib.hid hl
    clear hl
    by_cases hlt : k < G.length
    · obtain ⟨⟨g, x⟩, hx⟩ : ∃ x, G[k]? = some x := ⟨_, List.getElem?_eq_getElem hlt⟩
      have hl := HL.out
      rw [hx] at hl
      have hl2 := hl.trans (show ptr (some (g, x)) = .pointer (some ⟨g, 0, none⟩) from rfl)
      clear hl HL
      subst hl2
      have hgl := (HQ.out.low g (by have := mem_blocks hx; simp [qF, this])).2
      have node := ((HQ.out.below hW).ch k g x hx)
      have hr : wr.rangeAt g 0 (itR.cells x) := node.first
      obtain ⟨o1, ho1⟩ : ∃ o, nx G k = .pointer o := ⟨_, rfl⟩
      have c3 := node.c3
      rw [ho1] at c3
      have H1 := Lib.hid ho1
      have T := Lib.hid (take_snoc (its_at hx))
      clear node hx ho1
      go_wp2_with (first
        | (refine wpList_load_mid rfl 32 _ rfl g 0 rfl (itR.cells x) _ hr Try.underlying32 rfl (itOk.row x) ?_)
        | (refine wl_build_rec itOk rfl _ rfl x rfl ?_; have hx5 := built_range (R := itR) (w := wr) x; have hb5 : Below wr.heap.size wr (wr.alloc (.cells (itR.val x).cells itR.ty)) := (Below.refl _ _).alloc (Nat.le_refl _) _; have c35 := below_cell hb5 c3; generalize wr.alloc (.cells (itR.val x).cells itR.ty) = W5 at hx5 hb5 c35 ⊢; have hOo := HO.out.below hb5; have hszT := hb5.size)
        | (refine wl_append_rec itOk rfl _ _ rfl w.heap.size _ ((its G).take k) rfl hOo wr.heap.size 0 1 x rfl hx5 (by omega) (by omega) ?_; intro g6 cap W6 hO6 hg6 hat6; have c36 := hg6.cell c35 (fun e => by have := (hOo.lt g e.symm).1; omega)))
      rw [T.out, hlen] at hO6
      have hW6 := (bthen' hW hb5).grown hg6 (by omega) (fun k hk => (hOo.lt k hk).1)
      go_roundw
      case rel => exact ⟨k + 1, by omega, H1.out.symm, hW6, hO6⟩
      case measure => simp [sliceLen]; omega
    · obtain rfl : k = G.length := by omega
      have hl := HL.out
      rw [List.getElem?_eq_none (by omega)] at hl
      have hl2 := hl.trans (show ptr none = .pointer none from rfl)
      clear hl HL
      subst hl2
      have hO := HO.out
      rw [← its_length, List.take_length] at hO
      rw [its_length] at hO
      have HO2 := Lib.hid hO
      clear HO hO
      go_wp2_with fail
      go_ret
      exact ⟨_, rfl, hW, HO2.out⟩

theorem refPush_bad (w : World) (v : Value) (x : It) (hx : ¬ (1 ≤ x.id ∧ 1 ≤ x.cost ∧ x.cost ≤ 64)) :
    Calls Try.prog 7 #[v, .agg (itR.cells x).toArray] w fun e w' => e = .returned (.tuple #[v, .int .i64 1]) ∧ Below w.heap.size w w' := by
  obtain ⟨n0, n1⟩ := two_cells (it_range w x 32)
  have hb : x.id < 1 ∨ (1 ≤ x.id ∧ x.cost < 1) ∨ (1 ≤ x.id ∧ 1 ≤ x.cost ∧ 64 < x.cost) := by omega
  clear hx
  rcases hb with a1 | ⟨a1, a2⟩ | ⟨a1, a2, a3⟩
  all_goals
    go_enter Try.func7, Try.ntmps7
    go_wp2_with fail
    go_ret2
    exact ⟨rfl, (Below.refl _ _).alloc (Nat.le_refl _) _⟩
theorem refPush_there (w : World) (v : Value) (L : List It) (hv : Reads itR w v L) (hbig : L.length ≤ 1000000) (x : It) (hx : 1 ≤ x.id ∧ 1 ≤ x.cost ∧ x.cost ≤ 64) (hi : 0 ≤ ixI x.id L 0) :
    Calls Try.prog 7 #[v, .agg (itR.cells x).toArray] w fun e w' => e = .returned (.tuple #[v, .int .i64 8]) ∧ Below w.heap.size w w' := by
  obtain ⟨n0, n1⟩ := two_cells (it_range w x 32)
  have hb : Below w.heap.size w (w.alloc (.cells (itR.cells x).toArray 32)) := (Below.refl _ _).alloc (Nat.le_refl _) _
  have KF := Lib.hid (find_any _ v L (hv.below hb) hbig x.id)
  obtain ⟨a1, a2, a3⟩ := hx
  clear hv
  go_enter Try.func7, Try.ntmps7
  go_wp2_with (go_at_call 12; refine KF.out.mono ?_; rintro e W2 ⟨rfl, rfl⟩)
  go_ret2
  exact ⟨rfl, hb⟩
def PushGives (w : World) (L : List It) (x : It) (e : Ending) (w' : World) : Prop := ∃ v, e = .returned (.tuple #[v, .int .i64 0]) ∧ Below w.heap.size w w' ∧ Owns itR w.heap.size w' v (L ++ [x])
set_option maxRecDepth 100000 in
theorem refPush_yes (w : World) (v : Value) (L : List It) (hv : Reads itR w v L) (hbig : L.length < 100000) (x : It) (hx : 1 ≤ x.id ∧ 1 ≤ x.cost ∧ x.cost ≤ 64) (hi : ixI x.id L 0 < 0) :
    Calls Try.prog 7 #[v, .agg (itR.cells x).toArray] w (PushGives w L x) := by
  obtain ⟨av, capv, rfl⟩ := hv.form
  obtain ⟨n0, n1⟩ := two_cells (it_range w x 32)
  have hr1 := it_range w x 32
  have hb : Below w.heap.size w (w.alloc (.cells (itR.cells x).toArray 32)) := (Below.refl _ _).alloc (Nat.le_refl _) _
  have hv1 := hv.below hb
  have hs1 : (w.alloc (.cells (itR.cells x).toArray 32)).heap.size = w.heap.size + 1 := by simp
  obtain ⟨W1, hW1⟩ : ∃ W1, W1 = w.alloc (.cells (itR.cells x).toArray 32) := ⟨_, rfl⟩
  rw [← hW1] at n0 n1 hr1 hb hv1 hs1
  have KF := Lib.hid (find_any _ _ L hv1 (by omega) x.id)
  have HV := Lib.hid hv1
  have hO2 := Owns.made (R := itR) (B := w.heap.size) (w := W1) (by omega)
  replace hs1 : W1.heap.size ≤ w.heap.size + 1 ∧ w.heap.size + 1 ≤ W1.heap.size := by omega
  have hb2 : Below W1.heap.size W1 (W1.alloc (.cells #[] itR.ty)) := (Below.refl _ _).alloc (Nat.le_refl _) _
  have hs2 := hb2.size
  obtain ⟨a1, a2, a3⟩ := hx
  clear hv hv1
  go_enter Try.func7, Try.ntmps7
  go_upto_region 1 with fail
  show Code.wp _ _ _ _ (w.alloc (.cells (itR.cells x).toArray 32))
  rw [← hW1]
  clear hW1
  go_upto_region 6 with (first
    | (go_at_call 12; refine KF.out.mono ?_; rintro e W2 ⟨rfl, rfl⟩)
    | (refine wl_append_all itOk rfl _ _ rfl rfl w.heap.size _ _ [] L rfl rfl hO2 (HV.out.below hb2) (by simp; omega) (Nat.le_trans hb.size hs2) ?_; intro u3 W3 hO3 hg3 hat3))
  rw [List.nil_append] at hO3
  have hb3 := (bthen' hb hb2).grown hg3 (by omega) (fun k hk => (hO2.lt k hk).1)
  have hr3 : W3.rangeAt w.heap.size 0 (itR.cells x) := fun j z hz => hg3.cell (below_range hb2 hr1 j z hz) (fun e => by have e2 : w.heap.size = W1.heap.size := Option.some.inj e; omega)
  have hs3 := hb3.size
  clear hO2 hg3 hat3 n0 n1 KF
  go_wp2_with (first
    | (refine wpList_load_mid rfl 32 _ rfl w.heap.size 0 rfl (itR.cells x) _ hr3 Try.underlying32 rfl (itOk.row x) ?_)
    | (refine wl_build_rec itOk rfl _ rfl x rfl ?_; have hx5 := built_range (R := itR) (w := W3) x; have hb5 : Below W3.heap.size W3 (W3.alloc (.cells (itR.val x).cells itR.ty)) := (Below.refl _ _).alloc (Nat.le_refl _) _; generalize W3.alloc (.cells (itR.val x).cells itR.ty) = W5 at hx5 hb5 ⊢; have hOo := hO3.below hb5; have hszT := hb5.size)
    | (refine wl_append_rec itOk rfl _ _ rfl w.heap.size u3 L rfl hOo W3.heap.size 0 1 x rfl hx5 (by omega) (by omega) ?_; intro g6 cap W6 hO6 hg6 hat6))
  have hb6 := (bthen' hb3 hb5).grown hg6 (by omega) (fun k hk => (hOo.lt k hk).1)
  go_ret2
  exact ⟨_, rfl, hb6, hO6⟩

end Go.Proofs.Ytegkjbndnonneaa
