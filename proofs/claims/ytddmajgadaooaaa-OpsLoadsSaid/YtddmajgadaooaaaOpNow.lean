/- A table of operations behind some steps: what has turned, and what there is. -/
import Derived.Test.YtddmajgadaooaaaOpEnd
set_option linter.unusedVariables false
namespace Go.Proofs.Ytddmajgadaooaaa
open Go.RowKit

structure Now (T : Nat → Prop) (w W : World) (T' : Nat → Prop) (t : Nat) (keep next : Int) (lv ev : Value) (m fm : Nat) (sl : Fli → Value) (A D : List Int) (M : Int → Option Value) (fl : Fli → List Int) : Prop where
  u : UpdP T w W
  m : OMem T' W t keep next lv ev m fm sl A D M fl
  s : ∀ k, T' k → Gr T w W k
theorem notGr {T : Nat → Prop} {W W' : World} {k : Nat} (h : ¬ T k) (hk : k < W.heap.size) : ¬ Gr T W W' k := fun h9 => by
  rcases h9 with h9 | h9
  · exact h h9
  · omega
namespace Now
variable {T T' : Nat → Prop} {w W W' : World} {t : Nat} {keep next : Int} {lv ev : Value} {m fm : Nat} {sl : Fli → Value} {A D : List Int} {M : Int → Option Value} {fl : Fli → List Int}
theorem start (h : OMem T w t keep next lv ev m fm sl A D M fl) : Now T w w T t keep next lv ev m fm sl A D M fl := ⟨UpdP.refl _ _, h, fun k hk => .inl hk⟩
theorem step {lv' ev' : Value} {sl' : Fli → Value} {A' D' : List Int} {M' : Int → Option Value} {fl' : Fli → List Int} {T'' : Nat → Prop} {next' : Int} (h : Now T w W T' t keep next lv ev m fm sl A D M fl) (hu : UpdP T' W W') (hm : OMem T'' W' t keep next' lv' ev' m fm sl' A' D' M' fl') (hT : ∀ k, T'' k → Gr T' W W' k) :
    Now T w W' T'' t keep next' lv' ev' m fm sl' A' D' M' fl' := by
  have hs := h.u.size
  have hs2 := hu.size
  refine ⟨h.u.trans ⟨hu.os, hu.tape, hu.output, hu.size, fun k hk hn => hu.block k hk (fun h9 => hn (h.s k h9))⟩, hm, fun k hk => ?_⟩
  rcases hT k hk with h1 | h1
  · rcases h.s k h1 with h2 | h2
    · exact .inl h2
    · exact .inr (by omega)
  · exact .inr (by omega)
theorem below (h : Now T w W T' t keep next lv ev m fm sl A D M fl) (hb : Below W.heap.size W W') : Now T w W' T' t keep next lv ev m fm sl A D M fl := h.step (UpdP.ofB hb) (h.m.below hb) (fun k hk => .inl hk)
theorem ops {M' : Int → Option Value} {n : Nat} (h : Now T w W T' t keep next lv ev m fm sl A D M fl) (hu : Upd [m] W W') (hm : MapF (intK 3) W' m M' n) : Now T w W' T' t keep next lv ev m fm sl A D M' fl :=
  h.step (UpdP.of hu (fun k hk => by simp at hk; subst hk; exact .inl h.m.tT.2.1)) (h.m.setOps hu hm) (fun k hk => .inl hk)
theorem flt {g : Fli} {v' : Value} {l' : List Int} {F : List Nat} (h : Now T w W T' t keep next lv ev m fm sl A D M fl) (hu : Upd F W W') (hF : ∀ k ∈ F, k = fm ∨ (fl g ≠ [] ∧ (sl g).ownBlock = some k) ∨ W.heap.size ≤ k)
    (hm : ∃ n, MapS fliK W' fm (fun f => if (if f = g then l' else fl f) = [] then none else some (if f = g then v' else sl f)) n) (ho : l' ≠ [] → Owns intR 0 W' v' l') (hb : l' ≠ [] → ∀ k, v'.ownBlock = some k → (fl g ≠ [] ∧ (sl g).ownBlock = some k) ∨ W.heap.size ≤ k) :
    Now T w W' (Gr T' W W') t keep next lv ev m fm (fun f => if f = g then v' else sl f) A D M (fun f => if f = g then l' else fl f) :=
  h.step (UpdP.of hu (fun k hk => by
    rcases hF k hk with h9 | ⟨h8, h9⟩ | h9
    · subst h9; exact .inl h.m.tT.2.2
    · exact .inl (h.m.ds g h8 k h9).1
    · exact .inr h9)) (h.m.setFl hu hF hm ho hb) (fun k hk => hk)
theorem next1 (h : Now T w W T' t keep next lv ev m fm sl A D M fl) (n : Int) : Now T w (W.setCell ⟨t, 1, none⟩ (.int .i64 n)) T' t keep n lv ev m fm sl A D M fl :=
  h.step (UpdP.of ((Upd.refl [t] W).setCell (by simp) _) (fun k hk => by simp at hk; subst hk; exact .inl h.m.tT.1)) (h.m.setNext n) (fun k hk => .inl hk)
theorem fin (h : Now T w W T' t keep next lv ev m fm sl A D M fl) (hlt : ∀ k, T k → k < w.heap.size) : OMem (Gr T w W) W t keep next lv ev m fm sl A D M fl :=
  h.m.wider h.s (fun k hk => by
    have := h.u.size
    rcases hk with h1 | h1
    · have := hlt k h1; omega
    · exact h1.2)
end Now
theorem fli_neq (x y : Fli) (w : World) : (binOp BinOp.neq 65 (.agg x.cells.toArray) (.agg y.cells.toArray)).run Try.prog w = .ok (.bool (!decide (x = y))) w := by
  have h := fli_eq 9997 x y w
  rw [run_neq_struct]
  rw [show (Op.equalIn 10000 65 (.agg x.cells.toArray) (.agg y.cells.toArray)).run Try.prog w = .ok (decide (x = y)) w from h]
  rfl
theorem fli_gd (op : BinOp) (a b : Operand) (x y : Fli) (w : World) : (eqGuard op 65 a b (.agg x.cells.toArray) (.agg y.cells.toArray)).run Try.prog w = .ok () w := run_eqGuard_agg w op _ a b _ _ (by kernel_rfl)
theorem wl_neqF {ops : Array Oper} {rest : List Oper} {o : Oper} {a : Act} {w : World} {Q : Exit → Act → World → Prop} (hgd : o.guard = none) (p q : Operand) (ty : TypeId) (ho : o.op = .binOp .neq 65 p q ty) (x y : Fli) (hp : a.eval p = .agg x.cells.toArray) (hq : a.eval q = .agg y.cells.toArray)
    (h : wpList Try.prog ops Q rest (a.put o.dst (.bool (!decide (x = y)))) w) : wpList Try.prog ops Q (o :: rest) a w := by
  refine wpList_plain hgd fun K' hK' => ?_
  unfold Oper.wp execOp
  simp only [ho, hp, hq, Sem.run_bind, fli_gd, fli_neq, Result.andThen_ok, Sem.run_pure]
  exact hK' _ _ h
theorem wl_deleteS {κ : Type} [DecidableEq κ] {K : KeyK κ} (k0 : K.Ok) {ops : Array Oper} {rest : List Oper} {o : Oper} {a : Act} {w : World} {Q : Exit → Act → World → Prop} (hgd : o.guard = none) (m x : Operand) (t e : TypeId) (tys : Array TypeId) (htys : tys[0]? = some t) (ho : o.op = .call { callee := .builtin .delete, args := #[m, x], argTypes := tys })
    (ht : Try.prog.underlying t = some (.map K.ty e)) {b n : Nat} {f : κ → Option Value} (hm : a.eval m = .map (some b)) (h : MapS K w b f n) (k : κ) (hx : a.eval x = K.kv k)
    (hK : ∀ w', Upd [b] w w' → MapS K w' b (fun x => if x = k then none else f x) (if (f k).isSome then n - 1 else n) → wpList Try.prog ops Q rest (a.put o.dst (.tuple #[])) w') : wpList Try.prog ops Q (o :: rest) a w := by
  refine wpList_plain hgd fun K' hK' => ?_
  obtain ⟨w', hr, h1, h2⟩ := h.delete (ty := o.type) k0 htys ht k
  unfold Oper.wp
  simp only [execOp, ho, resolve, invoke, builtin, hm, hx, Sem.run_bind, Sem.run_pure, Result.andThen_ok, List.map_toArray, List.map_cons, List.map_nil, hr]
  exact hK' _ _ (hK w' h1 h2)
end Go.Proofs.Ytddmajgadaooaaa
