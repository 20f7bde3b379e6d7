/- Head. -/
import Derived.Test.YtegkjbndnonneaaFifoPush
set_option linter.unusedVariables false
namespace Go.Proofs.Ytegkjbndnonneaa
open Go.RowKit

def zeroIt : It := ⟨0, 0⟩
theorem results_it_tmp {P : Program} {fn : Func} {p q : Tmp} {ty : TypeId} (h : fn.results = #[.cell p ty, .tmp q]) (tmps : Array Value) (w : World) (g : Nat) (cs : List Value) (d : TypeDesc)
    (hp : tmps.getD p undef = .pointer (some ⟨g, 0, none⟩)) (hg : w.rangeAt g 0 cs) (hu : P.underlying ty = some d) (hd : d.isRow = true) (hi : (P.info? ty).map (·.size) = some cs.length) :
    (results fn tmps).run P w = .ok (.tuple #[.agg cs.toArray, tmps.getD q undef]) w := by
  have hp' : tmps[p]?.getD undef = .pointer (some ⟨g, 0, none⟩) := by simpa using hp
  simp [results, h, hp', asAddr, run_loadVar_mid w g 0 ty cs d hg hu hd hi]

theorem head_none (w : World) : Calls Try.prog 14 #[.pointer none] w fun e w' => e = .returned (.tuple #[.agg (itR.cells zeroIt).toArray, .bool false]) ∧ Below w.heap.size w w' := by
  go_enter Try.func14, Try.ntmps14
  go_wp2_with (refine wpList_store_mid rfl 32 _ _ rfl w.heap.size 0 (itR.cells zeroIt).toArray rfl rfl (freshR_there itOk w zeroIt) (itOk.row' zeroIt) (itOk.one' zeroIt) ?_; show wpList _ _ _ _ _ (freshR itR w zeroIt); have hx3 := freshR_range itOk w zeroIt; have hb3 := freshR_below (R := itR) w zeroIt; generalize freshR itR w zeroIt = W3 at hx3 hb3 ⊢)
  refine bodyPost_ret (results_it_tmp rfl _ _ w.heap.size (itR.cells zeroIt) _ rfl hx3 Try.underlying32 rfl (itOk.row zeroIt)) rfl ⟨rfl, hb3⟩
theorem head_empty (w : World) (B p m : Nat) (h : Qu B w p m []) : Calls Try.prog 14 #[.pointer (some ⟨p, 0, none⟩)] w fun e w' => e = .returned (.tuple #[.agg (itR.cells zeroIt).toArray, .bool false]) ∧ Below w.heap.size w w' := by
  have hb1 : Below w.heap.size w (w.alloc (.cells (itR.cells zeroIt).toArray 32)) := (Below.refl _ _).alloc (Nat.le_refl _) _
  have C0 := Lib.hid (show (w.alloc (.cells (itR.cells zeroIt).toArray 32)).cell? ⟨p, 0, none⟩ = some (.pointer none) from (h.below hb1).box.c0)
  clear h
  go_enter Try.func14, Try.ntmps14
  go_upto_region 1 with fail
  show Code.wp _ _ _ _ (w.alloc (.cells (itR.cells zeroIt).toArray 32))
  have c0 := C0.out
  go_wp2_with (refine wpList_store_mid rfl 32 _ _ rfl w.heap.size 0 (itR.cells zeroIt).toArray rfl rfl (freshR_there itOk w zeroIt) (itOk.row' zeroIt) (itOk.one' zeroIt) ?_; show wpList _ _ _ _ _ (freshR itR w zeroIt); have hx3 := freshR_range itOk w zeroIt; have hb3 := freshR_below (R := itR) w zeroIt; generalize freshR itR w zeroIt = W3 at hx3 hb3 ⊢)
  refine bodyPost_ret (results_it_tmp rfl _ _ w.heap.size (itR.cells zeroIt) _ rfl hx3 Try.underlying32 rfl (itOk.row zeroIt)) rfl ⟨rfl, hb3⟩
theorem head_some (w : World) (B p m g : Nat) (x : It) (G : List Lk) (h : Qu B w p m ((g, x) :: G)) : Calls Try.prog 14 #[.pointer (some ⟨p, 0, none⟩)] w fun e w' => e = .returned (.tuple #[.agg (itR.cells x).toArray, .bool true]) ∧ Below w.heap.size w w' := by
  have hb1 : Below w.heap.size w (w.alloc (.cells (itR.cells zeroIt).toArray 32)) := (Below.refl _ _).alloc (Nat.le_refl _) _
  have h1 := h.below hb1
  have c0 : (w.alloc (.cells (itR.cells zeroIt).toArray 32)).cell? ⟨p, 0, none⟩ = some (.pointer (some ⟨g, 0, none⟩)) := h1.box.c0
  have hr : (w.alloc (.cells (itR.cells zeroIt).toArray 32)).rangeAt g 0 (itR.cells x) := (h1.ch 0 g x rfl).first
  have RH := Lib.hid hr
  have C0 := Lib.hid c0
  clear h h1 hr c0
  go_enter Try.func14, Try.ntmps14
  go_upto_region 1 with fail
  show Code.wp _ _ _ _ (w.alloc (.cells (itR.cells zeroIt).toArray 32))
  have c0 := C0.out
  go_wp2_with (first
    | (refine wpList_load_mid rfl 32 _ rfl g 0 rfl (itR.cells x) _ RH.out Try.underlying32 rfl (itOk.row x) ?_)
    | (refine wpList_store_mid rfl 32 _ _ rfl w.heap.size 0 (itR.cells x).toArray rfl rfl (freshR_there itOk w x) (itOk.row' x) (itOk.one' x) ?_; show wpList _ _ _ _ _ (freshR itR w x); have hx3 := freshR_range itOk w x; have hb3 := freshR_below (R := itR) w x; generalize freshR itR w x = W3 at hx3 hb3 ⊢))
  refine bodyPost_ret (results_it_tmp rfl _ _ w.heap.size (itR.cells x) _ rfl hx3 Try.underlying32 rfl (itOk.row x)) rfl ⟨rfl, hb3⟩

end Go.Proofs.Ytegkjbndnonneaa
