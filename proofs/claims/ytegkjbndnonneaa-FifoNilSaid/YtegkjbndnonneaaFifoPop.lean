/- Pop. -/
import Derived.Test.YtegkjbndnonneaaFifoDrop2
set_option linter.unusedVariables false
namespace Go.Proofs.Ytegkjbndnonneaa
open Go.RowKit

set_option maxRecDepth 100000 in
theorem pop_no (w : World) (o : Option Addr) (H : ∀ w0 : World, Below w.heap.size w w0 → Calls Try.prog 14 #[.pointer o] w0 fun e w' => e = .returned (.tuple #[.agg (itR.cells zeroIt).toArray, .bool false]) ∧ Below w0.heap.size w0 w') :
    Calls Try.prog 10 #[.pointer o] w fun e w' => e = .returned (.tuple #[.agg (itR.cells zeroIt).toArray, .bool false]) ∧ Below w.heap.size w w' := by
  obtain ⟨W1, hW1⟩ : ∃ W1, W1 = w.alloc (.cells (itR.cells zeroIt).toArray 32) := ⟨_, rfl⟩
  have hb : Below w.heap.size w W1 := by rw [hW1]; exact (Below.refl _ _).alloc (Nat.le_refl _) _
  have ht1 := freshR_there itOk w zeroIt
  rw [show w.alloc (.cells (itR.val itR.zero).cells itR.ty) = W1 from hW1.symm] at ht1
  have hs1 : W1.heap.size = w.heap.size + 1 := by rw [hW1]; simp
  have KH := Lib.hid (H W1 hb)
  clear H
  go_enter Try.func10, Try.ntmps10
  go_upto_region 1 with fail
  show Code.wp _ _ _ _ (w.alloc (.cells (itR.cells zeroIt).toArray 32))
  rw [← hW1]
  clear hW1
  go_upto_region 3 with (first
    | (go_at_call 14; refine KH.out.mono ?_; rintro e W2 ⟨rfl, hb2⟩)
    | (refine wpList_store_mid rfl 32 _ _ rfl W2.heap.size 0 (itR.cells zeroIt).toArray rfl rfl (freshR_there itOk W2 zeroIt) (itOk.row' zeroIt) (itOk.one' zeroIt) ?_; show wpList _ _ _ _ _ (freshR itR W2 zeroIt); have hb3 := freshR_below (R := itR) W2 zeroIt; generalize freshR itR W2 zeroIt = W3 at hb3 ⊢))
  have ht3 := below_there hb3 (below_there hb2 ht1)
  have hb13 := Lib.hid (bthen' hb (bthen' hb2 hb3))
  have hx8 : (W3.setCells w.heap.size 0 (itR.cells zeroIt)).rangeAt w.heap.size 0 (itR.cells zeroIt) := World.rangeAt_setCells_same _ _ _ _ (by simpa using ht3)
  have hb8 : Below w.heap.size w (W3.setCells w.heap.size 0 (itR.cells zeroIt)) := ((Upd.refl [w.heap.size] _).setCells (by simp) _ _).toBelow hb13.out hb13.out.size (by simp)
  go_wp2_with (refine wpList_store_mid rfl 32 _ _ rfl w.heap.size 0 (itR.cells zeroIt).toArray rfl rfl ht3 (itOk.row' zeroIt) (itOk.one' zeroIt) ?_; show wpList _ _ _ _ _ (W3.setCells w.heap.size 0 (itR.cells zeroIt)); generalize W3.setCells w.heap.size 0 (itR.cells zeroIt) = W8 at hx8 hb8 ⊢)
  refine bodyPost_ret (results_it_tmp rfl _ _ w.heap.size (itR.cells zeroIt) _ rfl hx8 Try.underlying32 rfl (itOk.row zeroIt)) rfl ⟨rfl, hb8⟩
theorem pop_none (w : World) : Calls Try.prog 10 #[.pointer none] w fun e w' => e = .returned (.tuple #[.agg (itR.cells zeroIt).toArray, .bool false]) ∧ Below w.heap.size w w' :=
  pop_no w none fun w0 _ => head_none w0
theorem pop_empty (w : World) (B p m : Nat) (h : Qu B w p m []) : Calls Try.prog 10 #[.pointer (some ⟨p, 0, none⟩)] w fun e w' => e = .returned (.tuple #[.agg (itR.cells zeroIt).toArray, .bool false]) ∧ Below w.heap.size w w' :=
  pop_no w (some ⟨p, 0, none⟩) fun w0 hb => head_empty w0 B p m (h.below hb)

set_option maxRecDepth 100000 in
theorem pop_some (w : World) (B p m g : Nat) (x : It) (G : List Lk) (h : Qu B w p m ((g, x) :: G)) (hbig : (((g, x) :: G) : List Lk).length ≤ 100000) :
    Calls Try.prog 10 #[.pointer (some ⟨p, 0, none⟩)] w fun e w' => e = .returned (.tuple #[.agg (itR.cells x).toArray, .bool true]) ∧ Upd (qF p m ((g, x) :: G)) w w' ∧ Qu B w' p m G := by
  obtain ⟨W1, hW1⟩ : ∃ W1, W1 = w.alloc (.cells (itR.cells zeroIt).toArray 32) := ⟨_, rfl⟩
  have hb : Below w.heap.size w W1 := by rw [hW1]; exact (Below.refl _ _).alloc (Nat.le_refl _) _
  have ht1 := freshR_there itOk w x
  rw [show w.alloc (.cells (itR.val itR.zero).cells itR.ty) = W1 from hW1.symm] at ht1
  have hs1 : W1.heap.size = w.heap.size + 1 := by rw [hW1]; simp
  have hnF : w.heap.size ∉ qF p m ((g, x) :: G) := fun e => Nat.lt_irrefl _ (h.low _ e).2
  have h1 := h.below hb
  have KH := Lib.hid (head_some W1 B p m g x G h1)
  have HQ1 := Lib.hid h1
  clear h h1
  go_enter Try.func10, Try.ntmps10
  go_upto_region 1 with fail
  show Code.wp _ _ _ _ (w.alloc (.cells (itR.cells zeroIt).toArray 32))
  rw [← hW1]
  clear hW1
  go_upto_region 4 with (first
    | (go_at_call 14; refine KH.out.mono ?_; rintro e W2 ⟨rfl, hb2⟩)
    | (refine wpList_store_mid rfl 32 _ _ rfl W2.heap.size 0 (itR.cells x).toArray rfl rfl (freshR_there itOk W2 x) (itOk.row' x) (itOk.one' x) ?_; show wpList _ _ _ _ _ (freshR itR W2 x); have hx3 := freshR_range itOk W2 x; have hb3 := freshR_below (R := itR) W2 x; generalize freshR itR W2 x = W3 at hx3 hb3 ⊢))
  obtain ⟨n0, -⟩ := two_cells hx3
  have ht3 := below_there hb3 (below_there hb2 ht1)
  have hb13 := Lib.hid (bthen' hb (bthen' hb2 hb3))
  have KD := Lib.hid (drop_yes W3 B p m _ ((HQ1.out.below hb2).below hb3) 0 g x rfl hbig)
  clear KH hx3
  go_wp2_with (first
    | (go_at_call 11; refine KD.out.mono ?_; rintro e W4 ⟨rfl, hu4, hq4⟩; have ht4 := hu4.there hnF ht3; have hx8 : (W4.setCells w.heap.size 0 (itR.cells x)).rangeAt w.heap.size 0 (itR.cells x) := World.rangeAt_setCells_same _ _ _ _ (by simpa using ht4); have hu8 : Upd [w.heap.size] W4 (W4.setCells w.heap.size 0 (itR.cells x)) := (Upd.refl _ _).setCells (by simp) _ _)
    | (refine wpList_store_mid rfl 32 _ _ rfl w.heap.size 0 (itR.cells x).toArray rfl rfl ht4 (itOk.row' x) (itOk.one' x) ?_; show wpList _ _ _ _ _ (W4.setCells w.heap.size 0 (itR.cells x)); generalize W4.setCells w.heap.size 0 (itR.cells x) = W8 at hx8 hu8 ⊢))
  have hq8 : Qu B W8 p m G := by
    refine (show Qu B W4 p m G from hq4).upd hu8 (fun b hb2 => ?_)
    simp
    intro e
    subst e
    exact hnF (by simp [qF, blocks] at hb2 ⊢; rcases hb2 with h | h | h; exact .inl h; exact .inr (.inl h); exact .inr (.inr (.inr h)))
  refine bodyPost_ret (results_it_tmp rfl _ _ w.heap.size (itR.cells x) _ rfl hx8 Try.underlying32 rfl (itOk.row x)) rfl ⟨rfl, ?_, hq8⟩
  exact ((Upd.ofBelow _ hb13.out).trans hu4).transG hu8 (fun i hi => .inr (by simp at hi; omega))

end Go.Proofs.Ytegkjbndnonneaa
