/- Numbers without one: slices.Clone, slices.IndexFunc, slices.DeleteFunc at ints. -/
import Derived.Test.YtddmajgadaooaaaRecM
import Derived.Laws.CopyRow
import Derived.Test.YtddmajgadaooaaaShelf
set_option linter.unusedVariables false
namespace Go.Proofs.Ytddmajgadaooaaa
open Go.RowKit

def intR : Rec Int := ⟨3, 59, 1, 8, fun n => .int .i64 n, 0⟩
theorem intOk : intR.Ok where
  pos := by decide
  small := by decide
  bsmall := by decide
  len := fun _ => rfl
  one := by intro x v hv; simp [Rec.cells, intR, Value.cells] at hv; subst hv; rfl
  slice := Try.underlying59
  info := ⟨_, rfl, rfl, rfl, rfl⟩
  fill := by
    intro y
    rw [show ((Array.range (1 * intR.n)).map (fun x => (intR.val intR.zero).cells[x % (intR.val intR.zero).cells.size]!)) = #[.int .i64 0] from by apply Array.toList_inj.1; rw [Array.toList_map, Array.toList_range]; rfl]
    simp [Instr.fill, Value.cells, intR]
theorem int_cell {w : World} {b off k : Nat} {x : Int} (h : w.rangeAt b (off + k * intR.n) (intR.cells x)) : w.cell? ⟨b, off + k, none⟩ = some (.int .i64 x) := by have := h 0 _ rfl; simpa [intR] using this
theorem int_flat (L : List Int) : L.flatMap intR.cells = L.map (.int .i64) := by
  induction L with
  | nil => rfl
  | cons x L ih => rw [List.flatMap_cons, ih]; rfl

/-- A list in new memory is handed back. -/
def GivesI (w : World) (L : List Int) (e : Ending) (w' : World) : Prop := ∃ v, e = .returned v ∧ Below w.heap.size w w' ∧ Owns intR w.heap.size w' v L

theorem clone_any (w : World) (v : Value) (L : List Int) (hv : Reads intR w v L) (hbig : L.length ≤ 100000) :
    Calls Try.prog 36 #[v] w (GivesI w L) := by
  rcases hv with ⟨rfl, a, cap, rfl⟩ | ⟨b, off, cap, rfl, hr⟩
  · cases a with
    | none =>
      refine (Try.slices_Clone_int_nil 0 cap w).mono ?_
      rintro e w' ⟨rfl, rfl⟩
      exact ⟨_, rfl, Below.refl _ _, Owns.nil _ _ _⟩
    | some a =>
      refine (Try.slices_Clone_int_zero a cap w).mono ?_
      rintro e w' ⟨v', rfl, ho, -, hb⟩
      exact ⟨v', rfl, hb, ho⟩
  · refine (Try.slices_Clone_int b off L.length cap L w (Nat.le_refl _) (by omega) (fun j hj => ?_)).mono ?_
    · rw [int_cell (hr j _ (List.getElem?_eq_getElem hj))]
      simp [List.getD, hj]
    · rintro e w' ⟨v', rfl, ho, -, hb⟩
      refine ⟨v', rfl, hb, ?_⟩
      rw [List.take_length, ← int_flat] at ho
      exact ho

theorem wo1_any (w : World) (x id : Int) (q : Nat) (hq : w.cell? ⟨q, 0, none⟩ = some (.int .i64 id)) :
    Calls Try.prog 37 #[.int .i64 x, .pointer (some ⟨q, 0, none⟩)] w fun e w' => e = .returned (.bool (decide (x = id))) ∧ w = w' := by
  go_enter Try.func37, Try.ntmps37
  go_wp2_with fail
  go_ret
  exact ⟨rfl, rfl⟩

set_option maxRecDepth 100000 in
set_option maxHeartbeats 1000000 in
theorem idxF_any (w : World) (v : Value) (L : List Int) (id : Int) (q : Nat) (hv : Reads intR w v L) (hq : w.cell? ⟨q, 0, none⟩ = some (.int .i64 id)) (hbig : L.length ≤ 100000) :
    Calls Try.prog 40 #[v, .func (.func 37) #[] #[.pointer (some ⟨q, 0, none⟩)]] w fun e w' => (∃ k : Nat, e = .returned (.int .i64 k) ∧ L[k]? = some id ∧ (∀ j n, j < k → L[j]? = some n → n ≠ id) ∨ e = .returned (.int .i64 (-1)) ∧ ∀ n ∈ L, n ≠ id) ∧ w = w' := by
  obtain ⟨av, cv, rfl⟩ := hv.form
  have HV := Lib.hid hv
  have HQ := Lib.hid hq
  clear hv hq
  go_enter Try.func40, Try.ntmps40
  go_wp2_with fail
  go_loopw [5, 8] (fun _ i wr => w = wr ∧ ∃ k : Nat, k ≤ L.length ∧ i = .int .i64 k ∧ ∀ j n, j < k → L[j]? = some n → n ≠ id) (fun _ i _ => L.length - (intOf i).toNat)
  case atStart => exact ⟨rfl, 0, by omega, rfl, by intro j n hj; omega⟩
  case round =>
    obtain ⟨rfl, k, hk, rfl, hall⟩ := hrel
    have HA := Lib.hid hall
    clear hall
    by_cases hlt : k < L.length
    · obtain ⟨n, hn⟩ : ∃ n, L[k]? = some n := ⟨_, List.getElem?_eq_getElem hlt⟩
      obtain ⟨b, off, rfl, hr⟩ := HV.out.at hn
      have hc := int_cell hr
      have HN := Lib.hid hn
      clear hr hn
      by_cases hx : n = id
      · have KW := fun W h => wo1_any W n id q h
        rw [decide_eq_true hx] at KW
        have HX := Lib.hid hx
        have KW := Lib.hid KW
        clear hx
        go_wp2_with (go_at_call 37; refine (KW.out w HQ.out).mono ?_; rintro e w' ⟨rfl, rfl⟩)
        go_ret
        exact ⟨⟨k, .inl ⟨rfl, by rw [HN.out, HX.out], HA.out⟩⟩, rfl⟩
      · have KW := fun W h => wo1_any W n id q h
        rw [decide_eq_false hx] at KW
        have HX := Lib.hid hx
        have KW := Lib.hid KW
        clear hx
        go_wp2_with (go_at_call 37; refine (KW.out w HQ.out).mono ?_; rintro e w' ⟨rfl, rfl⟩)
        go_roundw
        case rel => exact ⟨trivial, k + 1, by omega, by go_num, fun j m hj hm => by
          by_cases hjk : j = k
          · subst hjk
            rw [HN.out] at hm
            cases hm
            exact HX.out
          · exact HA.out j m (by omega) hm⟩
        case measure => simp [intOf]; omega
    · obtain rfl : k = L.length := by omega
      go_wp2_with fail
      go_ret
      refine ⟨⟨0, .inr ⟨rfl, fun n hn => ?_⟩⟩, rfl⟩
      obtain ⟨j, hj⟩ := List.mem_iff_getElem?.1 hn
      exact HA.out j n (List.getElem?_eq_some_iff.1 hj).1 hj

theorem heap_setCell_row {w : World} {g i : Nat} {cur : Array Value} {T : TypeId} {fr : Nat × Nat} (h : w.heap[g]? = some (.cells cur T fr)) (u : Value) : (w.setCell ⟨g, i, none⟩ u).heap[g]? = some (.cells (cur.setIfInBounds i u) T fr) := by
  unfold World.setCell
  simp only [Array.getElem?_modify, if_pos, h, Option.map_some]
  rfl
theorem cell_of_cur {w : World} {g i : Nat} {cur : Array Value} {T : TypeId} (h : w.heap[g]? = some (.cells cur T (0, 0))) : w.cell? ⟨g, i, none⟩ = cur[i]? := cell_of_row w g i cur T (0, 0) h
theorem free_of_cur {w : World} {g i : Nat} {cur : Array Value} {T : TypeId} (h : w.heap[g]? = some (.cells cur T (0, 0))) : w.frozen? ⟨g, i, none⟩ = false := by
  unfold World.frozen?
  simp only [h]
  simp

theorem wl_clear {ops : Array Oper} {rest : List Oper} {o : Oper} {a : Act} {w : World} {Q : Exit → Act → World → Prop} (hgd : o.guard = none) (x : Operand)
    (ho : o.op = .call { callee := .builtin .clear, args := #[x], argTypes := #[59] }) (g i n c : Nat) (hn : 0 < n) (hx : a.eval x = .slice (some ⟨g, i, none⟩) n c) (cur : Array Value) (hg : w.heap[g]? = some (.cells cur 3 (0, 0))) (hsz : i + n ≤ cur.size)
    (h : wpList Try.prog ops Q rest (a.put o.dst (.tuple #[])) (w.setRow g (cur.toList.take i ++ List.replicate n (Value.int .i64 0) ++ cur.toList.drop (i + n)).toArray)) : wpList Try.prog ops Q (o :: rest) a w := by
  refine wpList_plain hgd fun K' hK' => ?_
  have hz : (zeroValue 3).run Try.prog w = .ok (.int .i64 0) w := Try.zeroValue3 w
  have hs := run_storeCells_at (P := Try.prog) g i 3 (List.replicate n (Value.int .i64 0)) 0 cur w hg (by simpa using hsz) (by intro v hv; rw [List.eq_of_mem_replicate hv]; rfl)
  have hzc : (Builtin.zeroCells (Value.int .i64 0).cells n).toList = List.replicate n (Value.int .i64 0) := by
    unfold Builtin.zeroCells
    apply List.ext_getElem?
    intro j
    simp [Value.cells, List.getElem?_replicate]
    by_cases hj : j < n
    · simp [hj, Nat.mod_one]
    · simp [hj]
  have hr : (Builtin.clear_ #[59] o.type #[.slice (some ⟨g, i, none⟩) n c]).run Try.prog w = .ok (.tuple #[]) (w.setRow g (cur.toList.take i ++ List.replicate n (Value.int .i64 0) ++ cur.toList.drop (i + n)).toArray) := by
    obtain ⟨n, rfl⟩ : ∃ m, n = m + 1 := ⟨n - 1, by omega⟩
    simp only [Nat.add_zero, List.length_replicate] at hs
    simp [Builtin.clear_, Sem.run_bind, run_underlying Try.underlying59, hz, hzc, hs]
  unfold Oper.wp
  simp only [execOp, ho, resolve, invoke, builtin, hx, Sem.run_bind, Sem.run_pure, Result.andThen_ok, List.map_toArray, List.map_cons, List.map_nil, hr]
  exact hK' _ _ h
end Go.Proofs.Ytddmajgadaooaaa
