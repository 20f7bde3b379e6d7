/- Drop. -/
import Derived.Test.YtegkjbndnonneaaFifoHead
set_option linter.unusedVariables false
namespace Go.Proofs.Ytegkjbndnonneaa
open Go.RowKit

theorem wl_delete {κ : Type} [DecidableEq κ] {K : KeyK κ} (k0 : K.Ok) {ops : Array Oper} {rest : List Oper} {o : Oper} {a : Act} {w : World} {Q : Exit → Act → World → Prop} (hgd : o.guard = none) (m x : Operand) (t e kt : TypeId)
    (ho : o.op = .call { callee := .builtin .delete, args := #[m, x], argTypes := #[t, kt] })
    (ht : Try.prog.underlying t = some (.map K.ty e)) {b n : Nat} {f : κ → Option Value} (hm : a.eval m = .map (some b)) (h : MapF K w b f n) (k : κ) (hx : a.eval x = K.kv k)
    (hK : ∀ w', Upd [b] w w' → MapF K w' b (fun x => if x = k then none else f x) (if (f k).isSome then n - 1 else n) → wpList Try.prog ops Q rest (a.put o.dst (.tuple #[])) w') : wpList Try.prog ops Q (o :: rest) a w := by
  refine wpList_plain hgd fun K' hK' => ?_
  obtain ⟨w', hr, h1, h2⟩ := h.delete (tys := #[t, kt]) (ty := o.type) k0 rfl ht k
  unfold Oper.wp execOp
  simp only [ho, resolve, invoke, builtin, Sem.run_bind, Sem.run_pure, Result.andThen_ok, List.map_toArray, List.map_cons, List.map_nil, hm, hx, hr]
  exact hK' _ _ (hK w' h1 h2)

theorem drop_none (w : World) (id : Int) : Calls Try.prog 11 #[.pointer none, .int .i64 id] w fun e w' => e = .returned (.tuple #[.agg (itR.cells zeroIt).toArray, .bool false]) ∧ Below w.heap.size w w' := by
  have KH := Lib.hid (has_none (w.alloc (.cells (itR.cells zeroIt).toArray 32)) id)
  go_enter Try.func11, Try.ntmps11
  go_upto_region 1 with fail
  show Code.wp _ _ _ _ (w.alloc (.cells (itR.cells zeroIt).toArray 32))
  go_wp2_with (first
    | (go_at_call 20; refine KH.out.mono ?_; rintro e W2 ⟨rfl, rfl⟩)
    | (refine wpList_store_mid rfl 32 _ _ rfl w.heap.size 0 (itR.cells zeroIt).toArray rfl rfl (freshR_there itOk w zeroIt) (itOk.row' zeroIt) (itOk.one' zeroIt) ?_; show wpList _ _ _ _ _ (freshR itR w zeroIt); have hx3 := freshR_range itOk w zeroIt; have hb3 := freshR_below (R := itR) w zeroIt; generalize freshR itR w zeroIt = W3 at hx3 hb3 ⊢))
  refine bodyPost_ret (results_it_tmp rfl _ _ w.heap.size (itR.cells zeroIt) _ rfl hx3 Try.underlying32 rfl (itOk.row zeroIt)) rfl ⟨rfl, hb3⟩
theorem drop_no (w : World) (B p m : Nat) (G : List Lk) (h : Qu B w p m G) (id : Int) (hno : ∀ y ∈ its G, y.id ≠ id) : Calls Try.prog 11 #[.pointer (some ⟨p, 0, none⟩), .int .i64 id] w fun e w' => e = .returned (.tuple #[.agg (itR.cells zeroIt).toArray, .bool false]) ∧ Below w.heap.size w w' := by
  have hb1 : Below w.heap.size w (w.alloc (.cells (itR.cells zeroIt).toArray 32)) := (Below.refl _ _).alloc (Nat.le_refl _) _
  have KH := Lib.hid (has_no (w.alloc (.cells (itR.cells zeroIt).toArray 32)) B p m G (h.below hb1) id hno)
  clear h hno hb1
  go_enter Try.func11, Try.ntmps11
  go_upto_region 1 with fail
  show Code.wp _ _ _ _ (w.alloc (.cells (itR.cells zeroIt).toArray 32))
  go_wp2_with (first
    | (go_at_call 20; refine KH.out.mono ?_; rintro e W2 ⟨rfl, rfl⟩)
    | (refine wpList_store_mid rfl 32 _ _ rfl w.heap.size 0 (itR.cells zeroIt).toArray rfl rfl (freshR_there itOk w zeroIt) (itOk.row' zeroIt) (itOk.one' zeroIt) ?_; show wpList _ _ _ _ _ (freshR itR w zeroIt); have hx3 := freshR_range itOk w zeroIt; have hb3 := freshR_below (R := itR) w zeroIt; generalize freshR itR w zeroIt = W3 at hx3 hb3 ⊢))
  refine bodyPost_ret (results_it_tmp rfl _ _ w.heap.size (itR.cells zeroIt) _ rfl hx3 Try.underlying32 rfl (itOk.row zeroIt)) rfl ⟨rfl, hb3⟩

end Go.Proofs.Ytegkjbndnonneaa
