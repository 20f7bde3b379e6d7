/- The two maps of a table of operations: their keys; their operations. -/
import Derived.Test.YtddmajgadaooaaaMapS
import Derived.Test.YtddmajgadaooaaaOpLaw
set_option linter.unusedVariables false
namespace Go.Proofs.Ytddmajgadaooaaa
open Go.RowKit

def fliK : KeyK Fli := ⟨65, fun f => .agg f.cells.toArray⟩
theorem checkPlain (e : Bool) (n : Nat) (ty : TypeId) (v : Value) (w : World) (h : (∃ x, Try.prog.underlying ty = some (.int .i64) ∧ v = .int .i64 x) ∨ (∃ s, Try.prog.underlying ty = some .string ∧ v = .string s)) : (Instr.checkKey e (n + 1) ty v).run Try.prog w = .ok () w := by
  unfold Instr.checkKey
  rcases h with ⟨x, hu, rfl⟩ | ⟨s, hu, rfl⟩
  · simp [Sem.run_bind, run_underlying hu]
  · simp [Sem.run_bind, run_underlying hu]
theorem checkAcn (e : Bool) (n : Nat) (a : Acn) (w : World) : (Instr.checkKey e (n + 2) 27 (.agg a.cells.toArray)).run Try.prog w = .ok () w := by
  have hs := fun s w => checkPlain e n 9 (.string s) w (.inr ⟨s, Try.underlying9, rfl⟩)
  unfold Instr.checkKey
  simp [Sem.run_bind, run_underlying Try.underlying27, acn_part0, acn_part1, acn_part2, hs]
theorem checkFli (e : Bool) (n : Nat) (f : Fli) (w : World) : (Instr.checkKey e (n + 3) 65 (.agg f.cells.toArray)).run Try.prog w = .ok () w := by
  have ha := fun w => checkAcn e n f.a w
  have hi := fun w => checkPlain e (n + 1) 3 (.int .i64 f.ten) w (.inl ⟨f.ten, Try.underlying3, rfl⟩)
  unfold Instr.checkKey
  simp [Sem.run_bind, run_underlying Try.underlying65, fli_part0, fli_part1, ha, hi]
theorem findFli (k : Fli) (w : World) : ∀ (es : List MapEntry) (M : List (Fli × Value)) (i : Nat), Aligned fliK es M → (Instr.findAsking 65 (.agg k.cells.toArray) es i).run Try.prog w = .ok (firstAt k M i) w
  | [], M, i, h => by
    cases M with
    | nil => rfl
    | cons p r => simp [Aligned] at h
  | e :: es, M, i, h => by
    cases M with
    | nil => simp [Aligned] at h
    | cons p r =>
      simp only [Aligned, List.map_cons, List.cons.injEq, Prod.mk.injEq] at h
      obtain ⟨⟨hk, hv⟩, hr⟩ := h
      have he : (Op.equal 65 (.agg k.cells.toArray) (.agg p.1.cells.toArray)).run Try.prog w = .ok (decide (k = p.1)) w := fli_eq 9997 k p.1 w
      have ih := findFli k w es r (i + 1) hr
      have hk2 : e.key = .agg p.1.cells.toArray := hk
      simp only [Instr.findAsking, Sem.run_bind, hk2, he, Result.andThen_ok]
      unfold firstAt
      by_cases hp : k = p.1
      · rw [decide_eq_true hp, if_pos rfl, if_pos hp.symm, hv]
        rfl
      · rw [decide_eq_false hp, if_neg (by simp), if_neg (fun h => hp h.symm)]
        exact ih
theorem sameFli (k : Fli) : Instr.sameBits 10000 (.agg k.cells.toArray) (.agg k.cells.toArray) = true := by
  show Instr.sameBits (9999 + 1) _ _ = true
  simp [Instr.sameBits, Fli.cells, Acn.cells, beqBytes]
theorem fliOk : fliK.Ok where
  check := fun e k w => checkFli e 9997 k w
  stays := fun k => sameFli k
  find := fun k es M w h => by
    unfold Instr.findKey
    simp only [Sem.run_bind, fliK, run_underlying Try.underlying65, Result.andThen_ok]
    cases es with
    | nil =>
      cases M with
      | nil => rfl
      | cons p r => simp [Aligned] at h
    | cons e es =>
      have := findFli k w (e :: es) M 0 h
      simpa [Instr.findNow, Instr.sameNow] using this

/-! ### at an operation -/
section
variable {κ : Type} [DecidableEq κ] {K : KeyK κ} {ops : Array Oper} {rest : List Oper} {o : Oper} {a : Act} {w : World} {Q : Exit → Act → World → Prop}
theorem wl_updateS (k0 : K.Ok) (hgd : o.guard = none) (m x v : Operand) (t e : TypeId) (ho : o.op = .mapUpdate t m x v)
    (ht : Try.prog.underlying t = some (.map K.ty e)) {b n : Nat} {f : κ → Option Value} (hm : a.eval m = .map (some b)) (h : MapS K w b f n) (k : κ) (hx : a.eval x = K.kv k) (u : Value) (hv : a.eval v = u)
    (hK : ∀ w', Upd [b] w w' → MapS K w' b (fun x => if x = k then some u else f x) (if (f k).isSome then n else n + 1) → wpList Try.prog ops Q rest (a.put o.dst undef) w') : wpList Try.prog ops Q (o :: rest) a w := by
  refine wpList_plain hgd fun K' hK' => ?_
  obtain ⟨w', hr, h1, h2⟩ := h.update k0 ht k u
  unfold Oper.wp
  simp only [execOp, ho, hm, hx, hv, Sem.run_bind, hr, Result.andThen_ok]
  exact hK' _ _ (hK w' h1 h2)
theorem wl_entryS (k0 : K.Ok) (hgd : o.guard = none) (m x : Operand) (t e : TypeId) (ho : o.op = .mapEntry t m x)
    (ht : Try.prog.underlying t = some (.map K.ty e)) {z : Value} (hz : ∀ w, (zeroValue e).run Try.prog w = .ok z w) {b n : Nat} {f : κ → Option Value} (hm : a.eval m = .map (some b)) (h : MapS K w b f n) (k : κ) (hx : a.eval x = K.kv k)
    (hK : ∀ w' (st : Nat), Upd [b] w w' → MapE K w' b (fun x => if x = k then some ((f k).getD z) else f x) (if (f k).isSome then n else n + 1) k st → wpList Try.prog ops Q rest (a.put o.dst (.tuple #[(f k).getD z, goInt st])) w') : wpList Try.prog ops Q (o :: rest) a w := by
  refine wpList_plain hgd fun K' hK' => ?_
  obtain ⟨w', st, hr, h1, h2⟩ := h.entry k0 ht hz k
  unfold Oper.wp
  simp only [execOp, ho, hm, hx, Sem.run_bind, hr, Result.andThen_ok]
  exact hK' _ _ (hK w' st h1 h2)
theorem wl_entryStoreS (hgd : o.guard = none) (m s v : Operand) (t : TypeId) (ho : o.op = .entryStore t m s v)
    {b n : Nat} {f : κ → Option Value} (hm : a.eval m = .map (some b)) (k : κ) (st : Nat) (h : MapE K w b f n k st) (hs : a.eval s = goInt st) (u : Value) (hv : a.eval v = u)
    (hK : ∀ w', Upd [b] w w' → MapS K w' b (fun x => if x = k then some u else f x) n → wpList Try.prog ops Q rest (a.put o.dst undef) w') : wpList Try.prog ops Q (o :: rest) a w := by
  refine wpList_plain hgd fun K' hK' => ?_
  obtain ⟨w', hr, h1, h2⟩ := h.store (t := t) u
  unfold Oper.wp
  simp only [execOp, ho, hm, hs, hv, Sem.run_bind, hr, Result.andThen_ok]
  exact hK' _ _ (hK w' h1 h2)
end
end Go.Proofs.Ytddmajgadaooaaa
