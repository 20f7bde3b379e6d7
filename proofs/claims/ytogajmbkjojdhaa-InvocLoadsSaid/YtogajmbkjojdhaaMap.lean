/- Maps whose keys are numbers or texts, and whose elements are anything: a map as a function of its keys; look-up, store, delete, len. -/
import Derived.Test.YtogajmbkjojdhaaUpd
import Derived.Lib.Strings
import Derived.Laws.StructEq
set_option linter.unusedVariables false
namespace Go.Proofs.Ytogajmbkjojdhaa
open Go.RowKit

section
variable {κ : Type} [DecidableEq κ]

/-- The first pair of a key, with its place. -/
def firstAt (k : κ) : List (κ × Value) → Nat → Option (Nat × Value)
  | [], _ => none
  | p :: r, i => if p.1 = k then some (i, p.2) else firstAt k r (i + 1)
def lookL (M : List (κ × Value)) (k : κ) : Option Value := (firstAt k M 0).map (·.2)

theorem firstAt_shift (k : κ) : ∀ (M : List (κ × Value)) (i : Nat), firstAt k M i = (firstAt k M 0).map fun x => (x.1 + i, x.2)
  | [], i => rfl
  | p :: r, i => by
    unfold firstAt
    by_cases h : p.1 = k
    · rw [if_pos h, if_pos h]; simp
    · rw [if_neg h, if_neg h, firstAt_shift k r (i + 1), firstAt_shift k r (0 + 1)]
      cases firstAt k r 0 <;> simp; omega
theorem lookL_nil (k : κ) : lookL ([] : List (κ × Value)) k = none := rfl
theorem lookL_cons (p : κ × Value) (r : List (κ × Value)) (k : κ) : lookL (p :: r) k = if p.1 = k then some p.2 else lookL r k := by
  unfold lookL
  rw [firstAt]
  by_cases h : p.1 = k
  · rw [if_pos h, if_pos h]; rfl
  · rw [if_neg h, if_neg h, firstAt_shift]
    cases firstAt k r 0 <;> rfl

def putL (M : List (κ × Value)) (k : κ) (v : Value) : List (κ × Value) := match firstAt k M 0 with | some x => M.set x.1 (k, v) | none => M ++ [(k, v)]
def delL (M : List (κ × Value)) (k : κ) : List (κ × Value) := match firstAt k M 0 with | some x => M.eraseIdx x.1 | none => M

theorem putL_nil (k : κ) (v : Value) : putL [] k v = [(k, v)] := rfl
theorem putL_cons (p : κ × Value) (r : List (κ × Value)) (k : κ) (v : Value) : putL (p :: r) k v = if p.1 = k then (k, v) :: r else p :: putL r k v := by
  unfold putL
  rw [firstAt]
  by_cases h : p.1 = k
  · rw [if_pos h, if_pos h]; rfl
  · rw [if_neg h, if_neg h, firstAt_shift]
    cases firstAt k r 0 <;> rfl
theorem delL_nil (k : κ) : delL ([] : List (κ × Value)) k = [] := rfl
theorem delL_cons (p : κ × Value) (r : List (κ × Value)) (k : κ) : delL (p :: r) k = if p.1 = k then r else p :: delL r k := by
  unfold delL
  rw [firstAt]
  by_cases h : p.1 = k
  · rw [if_pos h, if_pos h]; rfl
  · rw [if_neg h, if_neg h, firstAt_shift]
    cases firstAt k r 0 <;> rfl

theorem lookL_put (k : κ) (v : Value) : ∀ (M : List (κ × Value)) (k' : κ), lookL (putL M k v) k' = if k' = k then some v else lookL M k'
  | [], k' => by
    rw [putL_nil, lookL_cons, lookL_nil]
    by_cases h : k' = k
    · subst h; simp
    · rw [if_neg (fun e => h e.symm), if_neg h]
  | p :: r, k' => by
    rw [putL_cons, lookL_cons]
    by_cases h : p.1 = k
    · rw [if_pos h, lookL_cons]
      by_cases h2 : k' = k
      · subst h2; simp
      · rw [if_neg (fun e => h2 e.symm), if_neg h2, if_neg (fun e => h2 (e.symm.trans h))]
    · rw [if_neg h, lookL_cons, lookL_put k v r k']
      by_cases h3 : p.1 = k'
      · rw [if_pos h3, if_pos h3, if_neg (fun e => h (h3.trans e))]
      · rw [if_neg h3, if_neg h3]
theorem mem_keys : ∀ (M : List (κ × Value)) (k : κ), k ∈ M.map (·.1) ↔ (lookL M k).isSome = true
  | [], k => by simp [lookL_nil]
  | p :: r, k => by
    rw [lookL_cons, List.map_cons, List.mem_cons, mem_keys r k]
    by_cases h : p.1 = k
    · subst h; simp
    · rw [if_neg h]
      exact ⟨fun h2 => h2.elim (fun e => absurd e.symm h) id, .inr⟩
theorem keys_put (k : κ) (v : Value) : ∀ (M : List (κ × Value)), (putL M k v).map (·.1) = if (lookL M k).isSome then M.map (·.1) else M.map (·.1) ++ [k]
  | [] => rfl
  | p :: r => by
    rw [putL_cons, lookL_cons]
    by_cases h : p.1 = k
    · rw [if_pos h, if_pos h]; simp [h]
    · rw [if_neg h, if_neg h, List.map_cons, keys_put k v r, List.map_cons]
      split <;> rfl
theorem len_put (k : κ) (v : Value) (M : List (κ × Value)) : (putL M k v).length = if (lookL M k).isSome then M.length else M.length + 1 := by
  have := congrArg List.length (keys_put k v M)
  rw [List.length_map] at this
  rw [this]
  split <;> simp
theorem lookL_del (k : κ) : ∀ (M : List (κ × Value)), (M.map (·.1)).Nodup → ∀ k', lookL (delL M k) k' = if k' = k then none else lookL M k'
  | [], _, k' => by rw [delL_nil, lookL_nil]; simp
  | p :: r, hn, k' => by
    rw [List.map_cons, List.nodup_cons] at hn
    rw [delL_cons, lookL_cons]
    by_cases h : p.1 = k
    · rw [if_pos h]
      by_cases h2 : k' = k
      · subst h2
        rw [if_pos rfl]
        cases hl : lookL r k' with
        | none => rfl
        | some x =>
          exfalso
          apply hn.1
          rw [h, mem_keys, hl]; rfl
      · rw [if_neg h2, if_neg (fun e => h2 (e.symm.trans h))]
    · rw [if_neg h, lookL_cons, lookL_del k r hn.2 k']
      by_cases h3 : p.1 = k'
      · rw [if_pos h3, if_pos h3, if_neg (fun e => h (h3.trans e))]
      · rw [if_neg h3, if_neg h3]
theorem keys_del (k : κ) : ∀ (M : List (κ × Value)), (delL M k).map (·.1) = (M.map (·.1)).erase k
  | [] => rfl
  | p :: r => by
    rw [delL_cons]
    by_cases h : p.1 = k
    · rw [if_pos h, List.map_cons, h, List.erase_cons_head]
    · rw [if_neg h, List.map_cons, List.map_cons, List.erase_cons_tail (by simpa using h), keys_del k r]
theorem len_del (k : κ) (M : List (κ × Value)) : (delL M k).length = if (lookL M k).isSome then M.length - 1 else M.length := by
  have := congrArg List.length (keys_del k M)
  rw [List.length_map] at this
  rw [this]
  split
  · rename_i h
    rw [List.length_erase_of_mem ((mem_keys M k).2 h), List.length_map]
  · rename_i h
    rw [List.erase_of_not_mem (fun hm => h ((mem_keys M k).1 hm)), List.length_map]

/-! ### in memory -/
structure KeyK (κ : Type) [DecidableEq κ] where
  ty : TypeId
  kv : κ → Value

def Aligned (K : KeyK κ) (es : List MapEntry) (M : List (κ × Value)) : Prop := es.map (fun e => (e.key, e.val)) = M.map (fun p => (K.kv p.1, p.2))

structure KeyK.Ok (K : KeyK κ) : Prop where
  check : ∀ e k w, (Instr.checkKey e 10000 K.ty (K.kv k)).run Try.prog w = .ok () w
  stays : ∀ k, Instr.sameBits 10000 (K.kv k) (K.kv k) = true
  find : ∀ (k : κ) (es : List MapEntry) (M : List (κ × Value)) (w : World), Aligned K es M → (Instr.findKey K.ty (K.kv k) es).run Try.prog w = .ok (firstAt k M 0) w

/-- A map, as a function of its keys, and how many it has. -/
def MapF (K : KeyK κ) (w : World) (b : Nat) (f : κ → Option Value) (n : Nat) : Prop :=
  ∃ es clock M, w.heap[b]? = some (.map es clock) ∧ Aligned K es.toList M ∧ (M.map (·.1)).Nodup ∧ (∀ k, lookL M k = f k) ∧ M.length = n

variable {K : KeyK κ} {w w' : World} {b n : Nat} {f : κ → Option Value}
theorem MapF.upd {F : List Nat} (h : MapF K w b f n) (hu : Upd F w w') (hb : b ∉ F) : MapF K w' b f n := by
  obtain ⟨es, clock, M, hh, r⟩ := h
  exact ⟨es, clock, M, hu.heap hb hh, r⟩
theorem MapF.below (h : MapF K w b f n) (hb : Below w.heap.size w w') : MapF K w' b f n := h.upd (Upd.ofBelow [] hb) (by simp)
theorem MapF.lt (h : MapF K w b f n) : b < w.heap.size := by
  obtain ⟨es, clock, M, hh, r⟩ := h
  exact (Array.getElem?_eq_some_iff.1 hh).1
theorem MapF.made (K : KeyK κ) (w : World) : MapF K (w.alloc (.map #[] 0)) w.heap.size (fun _ => none) 0 :=
  ⟨#[], 0, [], heap_alloc_new _ _, rfl, List.nodup_nil, fun _ => rfl, rfl⟩
theorem MapF.congr {g : κ → Option Value} (h : MapF K w b f n) (he : ∀ k, f k = g k) : MapF K w b g n := by
  obtain ⟨es, clock, M, hh, h1, h2, h3, h4⟩ := h
  exact ⟨es, clock, M, hh, h1, h2, fun k => (h3 k).trans (he k), h4⟩
theorem MapF.size (h : MapF K w b f n) : ∃ es clock, w.heap[b]? = some (.map es clock) ∧ es.size = n := by
  obtain ⟨es, clock, M, hh, h1, h2, h3, h4⟩ := h
  refine ⟨es, clock, hh, ?_⟩
  have := congrArg List.length h1
  simp at this
  omega

theorem MapF.lookup (k0 : K.Ok) {t e : TypeId} (h : MapF K w b f n) (ht : Try.prog.underlying t = some (.map K.ty e)) {z : Value} (hz : (zeroValue e).run Try.prog w = .ok z w) (k : κ) :
    (Instr.lookup t (.map (some b)) (K.kv k) false).run Try.prog w = .ok ((f k).getD z) w := by
  obtain ⟨es, clock, M, hh, h1, h2, h3, h4⟩ := h
  have hf := k0.find k es.toList M w h1
  have hl := h3 k
  unfold lookL at hl
  cases hm : firstAt k M 0 with
  | none =>
    rw [hm] at hl hf
    simp [Instr.lookup, Sem.run_bind, run_underlying ht, getObj, Sem.run, hh, Result.andThen, k0.check, hf, ← hl, hz]
  | some x =>
    rw [hm] at hl hf
    simp [Instr.lookup, Sem.run_bind, run_underlying ht, getObj, Sem.run, hh, Result.andThen, k0.check, hf, ← hl]
theorem MapF.lookupOk (k0 : K.Ok) {t e : TypeId} (h : MapF K w b f n) (ht : Try.prog.underlying t = some (.map K.ty e)) {z : Value} (hz : (zeroValue e).run Try.prog w = .ok z w) (k : κ) :
    (Instr.lookup t (.map (some b)) (K.kv k) true).run Try.prog w = .ok (.tuple #[(f k).getD z, .bool (f k).isSome]) w := by
  obtain ⟨es, clock, M, hh, h1, h2, h3, h4⟩ := h
  have hf := k0.find k es.toList M w h1
  have hl := h3 k
  unfold lookL at hl
  cases hm : firstAt k M 0 with
  | none =>
    rw [hm] at hl hf
    simp [Instr.lookup, Sem.run_bind, run_underlying ht, getObj, Sem.run, hh, Result.andThen, k0.check, hf, ← hl, hz]
  | some x =>
    rw [hm] at hl hf
    simp [Instr.lookup, Sem.run_bind, run_underlying ht, getObj, Sem.run, hh, Result.andThen, k0.check, hf, ← hl]

theorem firstAt_lt (k : κ) : ∀ (M : List (κ × Value)) (i : Nat) (x : Nat × Value), firstAt k M i = some x → i ≤ x.1 ∧ x.1 < i + M.length ∧ M[x.1 - i]? = some (k, x.2)
  | [], i, x, h => by cases h
  | p :: r, i, x, h => by
    unfold firstAt at h
    by_cases hp : p.1 = k
    · rw [if_pos hp] at h
      obtain rfl := Option.some.inj h
      refine ⟨Nat.le_refl _, by simp, ?_⟩
      simp [← hp]
    · rw [if_neg hp] at h
      obtain ⟨h1, h2, h3⟩ := firstAt_lt k r (i + 1) x h
      refine ⟨by omega, by simp; omega, ?_⟩
      rw [show x.1 - i = (x.1 - (i + 1)) + 1 by omega]
      exact h3

theorem aligned_set {es : Array MapEntry} {M : List (κ × Value)} (h : Aligned K es.toList M) (i : Nat) (k : κ) (v : Value) : Aligned K (es.modify i fun e => { e with key := K.kv k, val := v }).toList (M.set i (k, v)) := by
  unfold Aligned at *
  apply List.ext_getElem?
  intro j
  rw [List.getElem?_map, List.getElem?_map, Array.toList_modify, List.getElem?_modify, List.getElem?_set]
  have hj := congrArg (fun l => l[j]?) h
  simp only [List.getElem?_map] at hj
  by_cases hij : i = j
  · subst hij
    have hlen : es.toList.length = M.length := by have := congrArg List.length h; simpa using this
    simp only [if_true]
    by_cases hl : i < M.length
    · rw [if_pos hl]
      have : i < es.toList.length := by omega
      simp [List.getElem?_eq_getElem this]
    · rw [if_neg hl]
      have : es.toList[i]? = none := List.getElem?_eq_none (by omega)
      rw [this]; rfl
  · simp only [hij, if_false]
    simpa using hj
theorem aligned_push {es : Array MapEntry} {M : List (κ × Value)} (h : Aligned K es.toList M) (k : κ) (v : Value) (c : Nat) : Aligned K (es.push { key := K.kv k, val := v, born := c }).toList (M ++ [(k, v)]) := by
  unfold Aligned at *
  simp [h]
theorem aligned_erase {es : Array MapEntry} {M : List (κ × Value)} (h : Aligned K es.toList M) (i : Nat) : Aligned K (es.eraseIdxIfInBounds i).toList (M.eraseIdx i) := by
  unfold Aligned at *
  rw [Array.toList_eraseIdxIfInBounds, List.eraseIdx_eq_take_drop_succ, List.eraseIdx_eq_take_drop_succ, List.map_append, List.map_append, List.map_take, List.map_take, List.map_drop, List.map_drop, h]

theorem setObj_upd {w : World} {b : Nat} (o : Obj) : Upd [b] w { w with heap := w.heap.setIfInBounds b o } :=
  ⟨rfl, rfl, rfl, by simp, fun k _ hn => by simp at hn; simp [Ne.symm hn]⟩

theorem MapF.update (k0 : K.Ok) {t e : TypeId} (h : MapF K w b f n) (ht : Try.prog.underlying t = some (.map K.ty e)) (k : κ) (v : Value) :
    ∃ w', (Instr.mapUpdate t (.map (some b)) (K.kv k) v).run Try.prog w = .ok () w' ∧ Upd [b] w w' ∧ MapF K w' b (fun x => if x = k then some v else f x) (if (f k).isSome then n else n + 1) := by
  have hlt := h.lt
  obtain ⟨es, clock, M, hh, h1, h2, h3, h4⟩ := h
  have hf := k0.find k es.toList M w h1
  have hp : ∀ x, lookL (putL M k v) x = if x = k then some v else f x := fun x => by rw [lookL_put, h3]
  have hnd : ((putL M k v).map (·.1)).Nodup := by
    rw [keys_put]
    split
    · exact h2
    · rename_i hno
      rw [List.nodup_append]
      refine ⟨h2, by simp, fun a ha c hc => ?_⟩
      simp at hc
      subst hc
      intro e
      subst e
      exact hno ((mem_keys M a).1 ha)
  have hlen : (putL M k v).length = if (f k).isSome then n else n + 1 := by rw [len_put, h3, h4]
  cases hm : firstAt k M 0 with
  | none =>
    refine ⟨{ w with heap := w.heap.setIfInBounds b (.map (es.push { key := K.kv k, val := v, born := clock }) (clock + 1)) }, ?_, setObj_upd _, es.push { key := K.kv k, val := v, born := clock }, clock + 1, putL M k v, by simp [hlt], ?_, hnd, hp, hlen⟩
    · rw [hm] at hf
      simp [Instr.mapUpdate, Sem.run_bind, run_underlying ht, getObj, setObj, Sem.run, hh, Result.andThen, k0.check, hf]
    · unfold putL; rw [hm]; exact aligned_push h1 k v clock
  | some x =>
    obtain ⟨i, u⟩ := x
    obtain ⟨_, hil, hat⟩ := firstAt_lt k M 0 _ hm
    simp only [Nat.sub_zero, Nat.zero_add] at hat hil
    have hei : ((es[i]?).map (·.key)).getD (K.kv k) = K.kv k := by
      have := congrArg (fun l => l[i]?) h1
      simp only [List.getElem?_map, hat] at this
      cases he : es[i]? with
      | none => rfl
      | some ee =>
        simp [he] at this
        simp [this.1]
    refine ⟨{ w with heap := w.heap.setIfInBounds b (.map (es.modify i fun e => { e with key := K.kv k, val := v }) clock) }, ?_, setObj_upd _, es.modify i fun e => { e with key := K.kv k, val := v }, clock, putL M k v, by simp [hlt], ?_, hnd, hp, hlen⟩
    · rw [hm] at hf
      simp only [Instr.mapUpdate, Sem.run_bind, run_underlying ht, getObj, setObj, Sem.run, hh, Result.andThen, k0.check, hf, hei, Instr.keyThatStays, k0.stays, if_true, Sem.run_pure]
    · unfold putL; rw [hm]; exact aligned_set h1 i k v

theorem MapF.delete (k0 : K.Ok) {t e ty : TypeId} {tys : Array TypeId} (h : MapF K w b f n) (htys : tys[0]? = some t) (ht : Try.prog.underlying t = some (.map K.ty e)) (k : κ) :
    ∃ w', (Builtin.delete_ tys ty #[.map (some b), K.kv k]).run Try.prog w = .ok (.tuple #[]) w' ∧ Upd [b] w w' ∧ MapF K w' b (fun x => if x = k then none else f x) (if (f k).isSome then n - 1 else n) := by
  have hlt := h.lt
  obtain ⟨es, clock, M, hh, h1, h2, h3, h4⟩ := h
  have hf := k0.find k es.toList M w h1
  have hp : ∀ x, lookL (delL M k) x = if x = k then none else f x := fun x => by rw [lookL_del k M h2, h3]
  have hnd : ((delL M k).map (·.1)).Nodup := by rw [keys_del]; exact h2.erase k
  have hlen : (delL M k).length = if (f k).isSome then n - 1 else n := by rw [len_del, h3, h4]
  cases hm : firstAt k M 0 with
  | none =>
    refine ⟨{ w with heap := w.heap.setIfInBounds b (.map es clock) }, ?_, setObj_upd _, es, clock, delL M k, by simp [hlt], ?_, hnd, hp, hlen⟩
    · rw [hm] at hf
      simp [Builtin.delete_, htys, Sem.run_bind, run_underlying ht, getObj, setObj, Sem.run, hh, Result.andThen, k0.check, hf]
    · unfold delL; rw [hm]; exact h1
  | some x =>
    obtain ⟨i, u⟩ := x
    refine ⟨{ w with heap := w.heap.setIfInBounds b (.map (es.eraseIdxIfInBounds i) clock) }, ?_, setObj_upd _, es.eraseIdxIfInBounds i, clock, delL M k, by simp [hlt], ?_, hnd, hp, hlen⟩
    · rw [hm] at hf
      simp [Builtin.delete_, htys, Sem.run_bind, run_underlying ht, getObj, setObj, Sem.run, hh, Result.andThen, k0.check, hf]
    · unfold delL; rw [hm]; exact aligned_erase h1 i
end

/-! ### keys that are numbers, texts -/
theorem find_plain {κ : Type} [DecidableEq κ] (K : KeyK κ) (d : TypeDesc) (hu : Try.prog.underlying K.ty = some d) (hs : ∀ a c, Instr.sameNow d (K.kv a) (K.kv c) = some (decide (c = a))) (k : κ) (w : World) :
    ∀ (es : List MapEntry) (M : List (κ × Value)), Aligned K es M → (Instr.findKey K.ty (K.kv k) es).run Try.prog w = .ok (firstAt k M 0) w := by
  have key : ∀ (es : List MapEntry) (M : List (κ × Value)) (i : Nat), Aligned K es M → Instr.findNow d (K.kv k) es i = some (firstAt k M i) := by
    intro es
    induction es with
    | nil => intro M i h; cases M with
      | nil => rfl
      | cons p r => simp [Aligned] at h
    | cons e es ih =>
      intro M i h
      cases M with
      | nil => simp [Aligned] at h
      | cons p r =>
        simp only [Aligned, List.map_cons, List.cons.injEq, Prod.mk.injEq] at h
        obtain ⟨⟨hk, hv⟩, hr⟩ := h
        unfold Instr.findNow firstAt
        rw [hk, hs k p.1]
        by_cases hp : p.1 = k
        · simp [hp, hv]
        · simp only [hp, decide_false, if_false]
          exact ih r (i + 1) hr
  intro es M h
  simp only [Instr.findKey, Sem.run_bind, run_underlying hu, Result.andThen_ok]
  rw [key es M 0 h]
  rfl

def intK (ty : TypeId) : KeyK Int := ⟨ty, fun n => .int .i64 n⟩
def strK (ty : TypeId) : KeyK ByteArray := ⟨ty, fun s => .string s⟩
theorem bytesInj (a b : ByteArray) : a.toList = b.toList ↔ a = b :=
  ⟨fun h => by
    rw [Lib.toList_data, Lib.toList_data] at h
    have h2 : a.data = b.data := Array.toList_inj.1 h
    cases a; cases b
    simpa using h2, fun h => by rw [h]⟩
theorem beqBytes (a b : ByteArray) : (a == b) = decide (a = b) := by
  rw [beq_toListBytes, Bool.eq_iff_iff, beq_iff_eq, bytesInj, decide_eq_true_iff]
theorem check_plain {ty : TypeId} {d : TypeDesc} (hu : Try.prog.underlying ty = some d) (v : Value) (hv : (∃ n, d = .int .i64 ∧ v = .int .i64 n) ∨ (∃ s, d = .string ∧ v = .string s)) (e : Bool) (w : World) : (Instr.checkKey e (9999 + 1) ty v).run Try.prog w = .ok () w := by
  unfold Instr.checkKey
  rcases hv with ⟨n, rfl, rfl⟩ | ⟨s, rfl, rfl⟩
  · simp [Sem.run_bind, run_underlying hu]
  · simp [Sem.run_bind, run_underlying hu]
theorem intK_ok {ty : TypeId} (hu : Try.prog.underlying ty = some (.int .i64)) : (intK ty).Ok where
  check := fun e k w => check_plain hu _ (.inl ⟨k, rfl, rfl⟩) e w
  stays := fun k => by simp [Instr.sameBits, intK]
  find := fun k es M w h => find_plain (intK ty) (.int .i64) hu (fun a c => by simp only [Instr.sameNow, intK, if_true, Option.some.injEq]; rw [Bool.eq_iff_iff, beq_iff_eq, decide_eq_true_iff]; exact eq_comm) k w es M h
theorem strK_ok {ty : TypeId} (hu : Try.prog.underlying ty = some .string) : (strK ty).Ok where
  check := fun e k w => check_plain hu _ (.inr ⟨k, rfl, rfl⟩) e w
  stays := fun k => by simp [Instr.sameBits, strK, beqBytes]
  find := fun k es M w h => find_plain (strK ty) .string hu (fun a c => by simp only [Instr.sameNow, strK, beqBytes, Option.some.injEq]; rw [Bool.eq_iff_iff, decide_eq_true_iff, decide_eq_true_iff]; exact eq_comm) k w es M h

/-! ### at an operation -/
theorem wl_lookup {κ : Type} [DecidableEq κ] {K : KeyK κ} (k0 : K.Ok) {ops : Array Oper} {rest : List Oper} {o : Oper} {a : Act} {w : World} {Q : Exit → Act → World → Prop} (hgd : o.guard = none) (m x : Operand) (t e : TypeId) (ho : o.op = .lookup t m x false)
    (ht : Try.prog.underlying t = some (.map K.ty e)) {z : Value} (hz : ∀ w, (zeroValue e).run Try.prog w = .ok z w) {b n : Nat} {f : κ → Option Value} (hm : a.eval m = .map (some b)) (h : MapF K w b f n) (k : κ) (hx : a.eval x = K.kv k)
    (hK : wpList Try.prog ops Q rest (a.put o.dst ((f k).getD z)) w) : wpList Try.prog ops Q (o :: rest) a w := by
  refine wpList_plain hgd fun K' hK' => ?_
  unfold Oper.wp
  simp only [execOp, ho, hm, hx, Sem.run_bind, h.lookup k0 ht (hz w) k, Result.andThen_ok]
  exact hK' _ _ hK
theorem wl_lookupOk {κ : Type} [DecidableEq κ] {K : KeyK κ} (k0 : K.Ok) {ops : Array Oper} {rest : List Oper} {o : Oper} {a : Act} {w : World} {Q : Exit → Act → World → Prop} (hgd : o.guard = none) (m x : Operand) (t e : TypeId) (ho : o.op = .lookup t m x true)
    (ht : Try.prog.underlying t = some (.map K.ty e)) {z : Value} (hz : ∀ w, (zeroValue e).run Try.prog w = .ok z w) {b n : Nat} {f : κ → Option Value} (hm : a.eval m = .map (some b)) (h : MapF K w b f n) (k : κ) (hx : a.eval x = K.kv k)
    (hK : wpList Try.prog ops Q rest (a.put o.dst (.tuple #[(f k).getD z, .bool (f k).isSome])) w) : wpList Try.prog ops Q (o :: rest) a w := by
  refine wpList_plain hgd fun K' hK' => ?_
  unfold Oper.wp
  simp only [execOp, ho, hm, hx, Sem.run_bind, h.lookupOk k0 ht (hz w) k, Result.andThen_ok]
  exact hK' _ _ hK
theorem wl_update {κ : Type} [DecidableEq κ] {K : KeyK κ} (k0 : K.Ok) {ops : Array Oper} {rest : List Oper} {o : Oper} {a : Act} {w : World} {Q : Exit → Act → World → Prop} (hgd : o.guard = none) (m x v : Operand) (t e : TypeId) (ho : o.op = .mapUpdate t m x v)
    (ht : Try.prog.underlying t = some (.map K.ty e)) {b n : Nat} {f : κ → Option Value} (hm : a.eval m = .map (some b)) (h : MapF K w b f n) (k : κ) (hx : a.eval x = K.kv k) (u : Value) (hv : a.eval v = u)
    (hK : ∀ w', Upd [b] w w' → MapF K w' b (fun x => if x = k then some u else f x) (if (f k).isSome then n else n + 1) → wpList Try.prog ops Q rest (a.put o.dst undef) w') : wpList Try.prog ops Q (o :: rest) a w := by
  refine wpList_plain hgd fun K' hK' => ?_
  obtain ⟨w', hr, h1, h2⟩ := h.update k0 ht k u
  unfold Oper.wp
  simp only [execOp, ho, hm, hx, hv, Sem.run_bind, hr, Result.andThen_ok]
  exact hK' _ _ (hK w' h1 h2)

end Go.Proofs.Ytogajmbkjojdhaa
