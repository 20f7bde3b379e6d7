/- Maps whose entries may be turned in place ('m[k] = append(m[k], x)'): their stamps; keys that are structs. -/
import Derived.Test.YtogajmbkjojdhaaMap
set_option linter.unusedVariables false
namespace Go.Proofs.Ytogajmbkjojdhaa
open Go.RowKit

def Stamps (es : List MapEntry) (clock : Nat) : Prop := (es.map (·.born)).Nodup ∧ ∀ e ∈ es, e.born < clock
theorem Stamps.nil : Stamps [] 0 := ⟨List.nodup_nil, by simp⟩
theorem Stamps.push {es : List MapEntry} {clock : Nat} (h : Stamps es clock) (k v : Value) : Stamps (es ++ [{ key := k, val := v, born := clock }]) (clock + 1) := by
  refine ⟨?_, ?_⟩
  · rw [List.map_append, List.nodup_append]
    refine ⟨h.1, by simp, fun a ha b hb => ?_⟩
    simp at hb
    subst hb
    obtain ⟨e, he, rfl⟩ := List.mem_map.1 ha
    have := h.2 e he
    omega
  · intro e he
    rcases List.mem_append.1 he with he | he
    · have := h.2 e he; omega
    · simp at he; subst he; simp
theorem Stamps.of_born {es es' : List MapEntry} {clock : Nat} (h : Stamps es clock) (he : es'.map (·.born) = es.map (·.born)) : Stamps es' clock := by
  refine ⟨by rw [he]; exact h.1, fun e hm => ?_⟩
  have : e.born ∈ es.map (·.born) := by rw [← he]; exact List.mem_map.2 ⟨e, hm, rfl⟩
  obtain ⟨e2, hm2, h2⟩ := List.mem_map.1 this
  rw [← h2]
  exact h.2 e2 hm2
theorem Stamps.erase {es : List MapEntry} {clock : Nat} (h : Stamps es clock) (i : Nat) : Stamps (es.eraseIdx i) clock := by
  refine ⟨?_, fun e he => h.2 e (List.mem_of_mem_eraseIdx he)⟩
  rw [List.eraseIdx_eq_take_drop_succ, List.map_append, List.map_take, List.map_drop, ← List.eraseIdx_eq_take_drop_succ]
  exact h.1.eraseIdx i
theorem born_modify (es : Array MapEntry) (i : Nat) (f : MapEntry → MapEntry) (hf : ∀ e, (f e).born = e.born) : (es.modify i f).toList.map (·.born) = es.toList.map (·.born) := by
  apply List.ext_getElem?
  intro j
  rw [List.getElem?_map, List.getElem?_map, Array.toList_modify, List.getElem?_modify]
  cases es.toList[j]? with
  | none => rfl
  | some e => by_cases h : i = j <;> simp [h, hf]

section
variable {κ : Type} [DecidableEq κ] {K : KeyK κ} {w w' : World} {b n : Nat} {f : κ → Option Value}

def MapS (K : KeyK κ) (w : World) (b : Nat) (f : κ → Option Value) (n : Nat) : Prop :=
  ∃ es clock M, w.heap[b]? = some (.map es clock) ∧ Aligned K es.toList M ∧ (M.map (·.1)).Nodup ∧ (∀ k, lookL M k = f k) ∧ M.length = n ∧ Stamps es.toList clock
theorem MapS.toF (h : MapS K w b f n) : MapF K w b f n := by
  obtain ⟨es, clock, M, hh, h1, h2, h3, h4, -⟩ := h
  exact ⟨es, clock, M, hh, h1, h2, h3, h4⟩
theorem MapS.upd {F : List Nat} (h : MapS K w b f n) (hu : Upd F w w') (hb : b ∉ F) : MapS K w' b f n := by
  obtain ⟨es, clock, M, hh, r⟩ := h
  exact ⟨es, clock, M, hu.heap hb hh, r⟩
theorem MapS.below (h : MapS K w b f n) (hb : Below w.heap.size w w') : MapS K w' b f n := h.upd (Upd.ofBelow [] hb) (by simp)
theorem MapS.lt (h : MapS K w b f n) : b < w.heap.size := h.toF.lt
theorem MapS.made (K : KeyK κ) (w : World) : MapS K (w.alloc (.map #[] 0)) w.heap.size (fun _ => none) 0 :=
  ⟨#[], 0, [], heap_alloc_new _ _, rfl, List.nodup_nil, fun _ => rfl, rfl, Stamps.nil⟩
theorem MapS.congr {g : κ → Option Value} (h : MapS K w b f n) (he : ∀ k, f k = g k) : MapS K w b g n := by
  obtain ⟨es, clock, M, hh, h1, h2, h3, h4⟩ := h
  exact ⟨es, clock, M, hh, h1, h2, fun k => (h3 k).trans (he k), h4⟩

theorem look_put' (k : κ) (v : Value) (M : List (κ × Value)) (x : κ) (hf : lookL M x = f x) : lookL (putL M k v) x = if x = k then some v else f x := by rw [lookL_put, hf]
theorem nodup_put {M : List (κ × Value)} (h2 : (M.map (·.1)).Nodup) (k : κ) (v : Value) : ((putL M k v).map (·.1)).Nodup := by
  rw [keys_put]
  split
  · exact h2
  · rename_i hno
    rw [List.nodup_append]
    refine ⟨h2, by simp, fun a ha c hc => ?_⟩
    simp at hc
    subst hc
    intro e
    subst e
    exact hno ((mem_keys M a).1 ha)
theorem key_at {es : Array MapEntry} {M : List (κ × Value)} (h1 : Aligned K es.toList M) {i : Nat} {k : κ} {u : Value} (hat : M[i]? = some (k, u)) : ∃ e, es[i]? = some e ∧ e.key = K.kv k ∧ e.val = u := by
  have := congrArg (fun l => l[i]?) h1
  simp only [List.getElem?_map, hat] at this
  cases he : es[i]? with
  | none => simp [he] at this
  | some ee =>
    simp [he] at this
    exact ⟨ee, rfl, this.1, this.2⟩

theorem MapS.update (k0 : K.Ok) {t e : TypeId} (h : MapS K w b f n) (ht : Try.prog.underlying t = some (.map K.ty e)) (k : κ) (v : Value) :
    ∃ w', (Instr.mapUpdate t (.map (some b)) (K.kv k) v).run Try.prog w = .ok () w' ∧ Upd [b] w w' ∧ MapS K w' b (fun x => if x = k then some v else f x) (if (f k).isSome then n else n + 1) := by
  have hlt := h.lt
  obtain ⟨es, clock, M, hh, h1, h2, h3, h4, h5⟩ := h
  have hf := k0.find k es.toList M w h1
  have hlen : (putL M k v).length = if (f k).isSome then n else n + 1 := by rw [len_put, h3, h4]
  cases hm : firstAt k M 0 with
  | none =>
    refine ⟨{ w with heap := w.heap.setIfInBounds b (.map (es.push { key := K.kv k, val := v, born := clock }) (clock + 1)) }, ?_, setObj_upd _, es.push { key := K.kv k, val := v, born := clock }, clock + 1, putL M k v, by simp [hlt], ?_, nodup_put h2 k v, fun x => look_put' k v M x (h3 x), hlen, by rw [Array.toList_push]; exact h5.push _ _⟩
    · rw [hm] at hf
      simp [Instr.mapUpdate, Sem.run_bind, run_underlying ht, getObj, setObj, Sem.run, hh, Result.andThen, k0.check, hf]
    · unfold putL; rw [hm]; exact aligned_push h1 k v clock
  | some x =>
    obtain ⟨i, u⟩ := x
    obtain ⟨_, hil, hat⟩ := firstAt_lt k M 0 _ hm
    simp only [Nat.sub_zero, Nat.zero_add] at hat hil
    obtain ⟨ee, he, hk, -⟩ := key_at h1 hat
    have hei : ((es[i]?).map (·.key)).getD (K.kv k) = K.kv k := by rw [he]; simp [hk]
    refine ⟨{ w with heap := w.heap.setIfInBounds b (.map (es.modify i fun e => { e with key := K.kv k, val := v }) clock) }, ?_, setObj_upd _, es.modify i fun e => { e with key := K.kv k, val := v }, clock, putL M k v, by simp [hlt], ?_, nodup_put h2 k v, fun x => look_put' k v M x (h3 x), hlen, h5.of_born (born_modify _ _ _ (fun _ => rfl))⟩
    · rw [hm] at hf
      simp only [Instr.mapUpdate, Sem.run_bind, run_underlying ht, getObj, setObj, Sem.run, hh, Result.andThen, k0.check, hf, hei, Instr.keyThatStays, k0.stays, if_true, Sem.run_pure]
    · unfold putL; rw [hm]; exact aligned_set h1 i k v

theorem MapS.delete (k0 : K.Ok) {t e ty : TypeId} {tys : Array TypeId} (h : MapS K w b f n) (htys : tys[0]? = some t) (ht : Try.prog.underlying t = some (.map K.ty e)) (k : κ) :
    ∃ w', (Builtin.delete_ tys ty #[.map (some b), K.kv k]).run Try.prog w = .ok (.tuple #[]) w' ∧ Upd [b] w w' ∧ MapS K w' b (fun x => if x = k then none else f x) (if (f k).isSome then n - 1 else n) := by
  have hlt := h.lt
  obtain ⟨es, clock, M, hh, h1, h2, h3, h4, h5⟩ := h
  have hf := k0.find k es.toList M w h1
  have hp : ∀ x, lookL (delL M k) x = if x = k then none else f x := fun x => by rw [lookL_del k M h2, h3]
  have hnd : ((delL M k).map (·.1)).Nodup := by rw [keys_del]; exact h2.erase k
  have hlen : (delL M k).length = if (f k).isSome then n - 1 else n := by rw [len_del, h3, h4]
  cases hm : firstAt k M 0 with
  | none =>
    refine ⟨{ w with heap := w.heap.setIfInBounds b (.map es clock) }, ?_, setObj_upd _, es, clock, delL M k, by simp [hlt], ?_, hnd, hp, hlen, h5⟩
    · rw [hm] at hf
      simp [Builtin.delete_, htys, Sem.run_bind, run_underlying ht, getObj, setObj, Sem.run, hh, Result.andThen, k0.check, hf]
    · unfold delL; rw [hm]; exact h1
  | some x =>
    obtain ⟨i, u⟩ := x
    refine ⟨{ w with heap := w.heap.setIfInBounds b (.map (es.eraseIdxIfInBounds i) clock) }, ?_, setObj_upd _, es.eraseIdxIfInBounds i, clock, delL M k, by simp [hlt], ?_, hnd, hp, hlen, by rw [Array.toList_eraseIdxIfInBounds]; exact h5.erase i⟩
    · rw [hm] at hf
      simp [Builtin.delete_, htys, Sem.run_bind, run_underlying ht, getObj, setObj, Sem.run, hh, Result.andThen, k0.check, hf]
    · unfold delL; rw [hm]; exact aligned_erase h1 i

/-- .. of which the entry of a key is known by its stamp. -/
def MapE (K : KeyK κ) (w : World) (b : Nat) (f : κ → Option Value) (n : Nat) (k : κ) (st : Nat) : Prop :=
  ∃ es clock M, w.heap[b]? = some (.map es clock) ∧ Aligned K es.toList M ∧ (M.map (·.1)).Nodup ∧ (∀ k, lookL M k = f k) ∧ M.length = n ∧ Stamps es.toList clock ∧ ∃ (i : Nat) (e : MapEntry) (u : Value), es[i]? = some e ∧ e.born = st ∧ M[i]? = some (k, u)
theorem MapE.upd {F : List Nat} {k : κ} {st : Nat} (h : MapE K w b f n k st) (hu : Upd F w w') (hb : b ∉ F) : MapE K w' b f n k st := by
  obtain ⟨es, clock, M, hh, r⟩ := h
  exact ⟨es, clock, M, hu.heap hb hh, r⟩
theorem firstAt_of {k : κ} : ∀ {M : List (κ × Value)} {i j : Nat} {u : Value}, (M.map (·.1)).Nodup → M[i]? = some (k, u) → firstAt k M j = some (i + j, u)
  | [], i, j, u, _, h => by simp at h
  | p :: r, i, j, u, hn, h => by
    rw [List.map_cons, List.nodup_cons] at hn
    unfold firstAt
    cases i with
    | zero =>
      simp at h
      subst h
      simp
    | succ i =>
      have h2 : r[i]? = some (k, u) := by simpa using h
      rw [if_neg (fun e : p.1 = k => hn.1 (by rw [e]; exact List.mem_map.2 ⟨(k, u), List.mem_of_getElem? h2, rfl⟩)), firstAt_of hn.2 h2]
      congr 2
      omega

theorem MapS.entry (k0 : K.Ok) {t e : TypeId} (h : MapS K w b f n) (ht : Try.prog.underlying t = some (.map K.ty e)) {z : Value} (hz : ∀ w, (zeroValue e).run Try.prog w = .ok z w) (k : κ) :
    ∃ w' st, (Instr.mapEntry t (.map (some b)) (K.kv k)).run Try.prog w = .ok (.tuple #[(f k).getD z, goInt (st : Nat)]) w' ∧ Upd [b] w w' ∧ MapE K w' b (fun x => if x = k then some ((f k).getD z) else f x) (if (f k).isSome then n else n + 1) k st := by
  have hlt := h.lt
  obtain ⟨es, clock, M, hh, h1, h2, h3, h4, h5⟩ := h
  have hf := k0.find k es.toList M w h1
  have hl := h3 k
  unfold lookL at hl
  cases hm : firstAt k M 0 with
  | none =>
    rw [hm] at hl hf
    have hfk : f k = none := hl.symm
    have hlen : (putL M k z).length = if (f k).isSome then n else n + 1 := by rw [len_put, h3, h4]
    have hput : putL M k z = M ++ [(k, z)] := by unfold putL; rw [hm]
    refine ⟨{ w with heap := w.heap.setIfInBounds b (.map (es.push { key := K.kv k, val := z, born := clock }) (clock + 1)) }, clock, ?_, setObj_upd _, es.push { key := K.kv k, val := z, born := clock }, clock + 1, putL M k z, by simp [hlt], ?_, nodup_put h2 k z, fun x => by rw [hfk]; exact look_put' k z M x (h3 x), hlen, by rw [Array.toList_push]; exact h5.push _ _, es.size, _, z, by simp; rfl, rfl, ?_⟩
    · rw [hfk]
      simp [Instr.mapEntry, Sem.run_bind, run_underlying ht, getObj, setObj, Sem.run, hh, Result.andThen, k0.check, hf, hz]
    · rw [hput]; exact aligned_push h1 k z clock
    · have hle : es.size = M.length := by have := congrArg List.length h1; simpa using this
      rw [hput, hle]; simp
  | some x =>
    obtain ⟨i, u⟩ := x
    rw [hm] at hl hf
    have hfk : f k = some u := hl.symm
    obtain ⟨_, hil, hat⟩ := firstAt_lt k M 0 _ hm
    simp only [Nat.sub_zero, Nat.zero_add] at hat hil
    obtain ⟨ee, he, hk, hv⟩ := key_at h1 hat
    have hei : ((es[i]?).map (·.key)).getD (K.kv k) = K.kv k := by rw [he]; simp [hk]
    have hbo : ((es[i]?).map (fun x => (x.born : Int))).getD 0 = (ee.born : Int) := by rw [he]; rfl
    have hmod : (es.modify i fun e => { e with key := K.kv k }) = es := by
      apply Array.ext_getElem?
      intro j
      rw [Array.getElem?_modify]
      by_cases hij : i = j
      · subst hij; rw [if_pos rfl, he, Option.map_some, ← hk]
      · rw [if_neg hij]
    refine ⟨{ w with heap := w.heap.setIfInBounds b (.map es clock) }, ee.born, ?_, setObj_upd _, es, clock, M, by simp [hlt], h1, h2, fun x => ?_, by rw [hfk]; simpa using h4, h5, i, ee, u, he, rfl, hat⟩
    · simp only [Instr.mapEntry, Sem.run_bind, run_underlying ht, getObj, setObj, Sem.run, hh, Result.andThen, k0.check, hf, hei, Instr.keyThatStays, k0.stays, if_true, Sem.run_pure, hmod, hbo, hfk, Option.getD_some]
    · rw [hfk, h3]
      by_cases hx : x = k
      · subst hx; simp [hfk]
      · simp [hx]
theorem MapE.store {t : TypeId} {k : κ} {st : Nat} (h : MapE K w b f n k st) (v : Value) :
    ∃ w', (Instr.entryStore t (.map (some b)) (goInt st) v).run Try.prog w = .ok () w' ∧ Upd [b] w w' ∧ MapS K w' b (fun x => if x = k then some v else f x) n := by
  obtain ⟨es, clock, M, hh, h1, h2, h3, h4, h5, i, e, u, he, hb, hat⟩ := h
  have hlt : b < w.heap.size := (Array.getElem?_eq_some_iff.1 hh).1
  have hfi := firstAt_of (j := 0) h2 hat
  have hput : putL M k v = M.set i (k, v) := by unfold putL; rw [hfi]; simp
  have hidx : es.findIdx? (fun e => (e.born : Int) == (st : Int)) = some i := by
    obtain ⟨hi, hei⟩ := Array.getElem?_eq_some_iff.1 he
    rw [Array.findIdx?_eq_some_iff_getElem]
    refine ⟨hi, by rw [hei, hb]; simp, fun j hj => ?_⟩
    intro hc
    have hbj : es[j].born = st := by have h9 := eq_of_beq hc; omega
    have hn := h5.1
    have hle : (es.toList.map (·.born)).length = es.size := by simp
    have hji := (List.nodup_iff_pairwise_ne.1 hn)
    rw [List.pairwise_iff_getElem] at hji
    refine hji j i (by rw [hle]; omega) (by rw [hle]; exact hi) hj ?_
    simp [hbj, hei, hb]
  refine ⟨{ w with heap := w.heap.setIfInBounds b (.map (es.modify i fun e => { e with val := v }) clock) }, ?_, setObj_upd _, es.modify i fun e => { e with val := v }, clock, putL M k v, by simp [hlt], ?_, nodup_put h2 k v, fun x => look_put' k v M x (h3 x), by rw [hput, List.length_set]; exact h4, h5.of_born (born_modify _ _ _ (fun _ => rfl))⟩
  · simp [Instr.entryStore, Sem.run_bind, getObj, setObj, Sem.run, hh, Result.andThen, asInt, asIntOf, goInt, hidx]
  · rw [hput]
    obtain ⟨ee, he2, hk, -⟩ := key_at h1 hat
    rw [he] at he2
    cases he2
    have hmod : (es.modify i fun e => { e with val := v }) = es.modify i fun e => { e with key := K.kv k, val := v } := by
      apply Array.ext_getElem?
      intro j
      rw [Array.getElem?_modify, Array.getElem?_modify]
      by_cases hij : i = j
      · subst hij; simp [he, hk]
      · rw [if_neg hij, if_neg hij]
    rw [hmod]
    exact aligned_set h1 i k v
end
end Go.Proofs.Ytogajmbkjojdhaa
