/- A table of operations in memory, part by part; what each elementary change makes of it. -/
import Derived.Test.YtddmajgadaooaaaOwnQ
import Derived.Test.YtddmajgadaooaaaOpMap
import Derived.Test.YtddmajgadaooaaaCel
import Derived.Test.YtddmajgadaooaaaRound
set_option linter.unusedVariables false
namespace Go.Proofs.Ytddmajgadaooaaa
open Go.RowKit

/-- Of the blocks that were there none but those of P have turned. -/
structure UpdP (P : Nat → Prop) (w w' : World) : Prop where
  os : w'.os = w.os
  tape : w'.tape = w.tape
  output : w'.output = w.output
  size : w.heap.size ≤ w'.heap.size
  block : ∀ k, k < w.heap.size → ¬ P k → w'.heap[k]? = w.heap[k]?
/-- The blocks of P, and what is new. -/
def Gr (P : Nat → Prop) (w w' : World) (k : Nat) : Prop := P k ∨ (w.heap.size ≤ k ∧ k < w'.heap.size)
namespace UpdP
variable {P P' : Nat → Prop} {w w1 w2 w' : World}
theorem refl (P : Nat → Prop) (w : World) : UpdP P w w := ⟨rfl, rfl, rfl, Nat.le_refl _, fun _ _ _ => rfl⟩
theorem trans (h : UpdP P w w1) (k : UpdP (Gr P w w1) w1 w2) : UpdP P w w2 :=
  ⟨k.os.trans h.os, k.tape.trans h.tape, k.output.trans h.output, Nat.le_trans h.size k.size, fun i hi hn => (k.block i (Nat.lt_of_lt_of_le hi h.size) (fun hin => by rcases hin with h1 | h1; exact hn h1; omega)).trans (h.block i hi hn)⟩
theorem of {F : List Nat} (h : Upd F w w') (hF : ∀ k ∈ F, P k ∨ w.heap.size ≤ k) : UpdP P w w' := ⟨h.os, h.tape, h.output, h.size, fun k hk hn => h.block k hk (fun hin => by rcases hF k hin with h1 | h1; exact hn h1; omega)⟩
theorem ofB (h : Below w.heap.size w w') : UpdP P w w' := of (Upd.ofBelow [] h) (by simp)
theorem heap {g : Nat} {o : Obj} (h : UpdP P w w') (hg : ¬ P g) (ho : w.heap[g]? = some o) : w'.heap[g]? = some o := by rw [h.block g (Array.getElem?_eq_some_iff.1 ho).1 hg, ho]
theorem toB {n : Nat} {w0 : World} (h : UpdP P w w') (hb : Below n w0 w) (hn : n ≤ w.heap.size) (hP : ∀ k, P k → n ≤ k) : Below n w0 w' :=
  hb.trans ⟨h.os, h.tape, h.output, h.size, fun i hi => h.block i (Nat.lt_of_lt_of_le hi hn) (fun hp => by have := hP i hp; omega)⟩
end UpdP
theorem Gr.sub {P : Nat → Prop} {w w1 w2 : World} (h : w.heap.size ≤ w1.heap.size) (h2 : w1.heap.size ≤ w2.heap.size) {k : Nat} (hk : Gr (Gr P w w1) w1 w2 k) : Gr P w w2 k := by
  rcases hk with (h1 | h1) | h1
  · exact .inl h1
  · exact .inr ⟨h1.1, by omega⟩
  · exact .inr ⟨by omega, h1.2⟩

/-- A table's memory: keep, next, the live ones' numbers, those of the ended ones, the operations, the flights. -/
structure OMem (T : Nat → Prop) (w : World) (t : Nat) (keep next : Int) (lv ev : Value) (m fm : Nat) (sl : Fli → Value) (A D : List Int) (M : Int → Option Value) (fl : Fli → List Int) : Prop where
  box : Cel w t [.int .i64 keep, .int .i64 next, lv, ev, .map (some m), .map (some fm)]
  live : Owns intR 0 w lv A
  ends : OwnQ 0 w ev D
  ops : ∃ n, MapF (intK 3) w m M n
  fls : ∃ n, MapS fliK w fm (fun f => if fl f = [] then none else some (sl f)) n
  each : ∀ f, fl f ≠ [] → Owns intR 0 w (sl f) (fl f)
  mf : m ≠ fm
  tm : t ≠ m ∧ t ≠ fm
  dl : ∀ k, lv.ownBlock = some k → T k ∧ k ≠ t ∧ k ≠ m ∧ k ≠ fm ∧ ev.ownBlock ≠ some k
  de : ∀ k, ev.ownBlock = some k → T k ∧ k ≠ t ∧ k ≠ m ∧ k ≠ fm
  ds : ∀ f, fl f ≠ [] → ∀ k, (sl f).ownBlock = some k → T k ∧ k ≠ t ∧ k ≠ m ∧ k ≠ fm ∧ lv.ownBlock ≠ some k ∧ ev.ownBlock ≠ some k
  dss : ∀ f g, f ≠ g → fl f ≠ [] → fl g ≠ [] → ∀ k, (sl f).ownBlock = some k → (sl g).ownBlock ≠ some k
  tT : T t ∧ T m ∧ T fm
  lt : ∀ k, T k → k < w.heap.size
namespace OMem
variable {T : Nat → Prop} {w w' : World} {t : Nat} {keep next : Int} {lv ev : Value} {m fm : Nat} {sl : Fli → Value} {A D : List Int} {M : Int → Option Value} {fl : Fli → List Int}
/-- Other blocks turn. -/
theorem upd {F : List Nat} (h : OMem T w t keep next lv ev m fm sl A D M fl) (hu : Upd F w w') (hF : ∀ k ∈ F, ¬ T k) : OMem T w' t keep next lv ev m fm sl A D M fl := by
  have hn : ∀ k, T k → k ∉ F := fun k hk hin => hF k hin hk
  obtain ⟨n1, h1⟩ := h.ops
  obtain ⟨n2, h2⟩ := h.fls
  exact ⟨h.box.upd hu (hn _ h.tT.1), h.live.upd hu (fun k hk => hn k (h.dl k hk).1), h.ends.upd hu (fun k hk => hn k (h.de k hk).1), ⟨n1, h1.upd hu (hn _ h.tT.2.1)⟩, ⟨n2, h2.upd hu (hn _ h.tT.2.2)⟩,
    fun f hf => (h.each f hf).upd hu (fun k hk => hn k (h.ds f hf k hk).1), h.mf, h.tm, h.dl, h.de, h.ds, h.dss, h.tT, fun k hk => Nat.lt_of_lt_of_le (h.lt k hk) hu.size⟩
theorem below (h : OMem T w t keep next lv ev m fm sl A D M fl) (hb : Below w.heap.size w w') : OMem T w' t keep next lv ev m fm sl A D M fl := h.upd (Upd.ofBelow [] hb) (by simp)
theorem updP {P : Nat → Prop} (h : OMem T w t keep next lv ev m fm sl A D M fl) (hu : UpdP P w w') (hP : ∀ k, P k → ¬ T k) : OMem T w' t keep next lv ev m fm sl A D M fl := by
  classical
  refine h.upd (F := (List.range w.heap.size).filter fun k => decide (P k)) ⟨hu.os, hu.tape, hu.output, hu.size, fun k hk hn => hu.block k hk (fun hp => hn ?_)⟩ (fun k hk => ?_)
  · rw [List.mem_filter]; exact ⟨List.mem_range.2 hk, decide_eq_true hp⟩
  · rw [List.mem_filter] at hk; exact hP k (of_decide_eq_true hk.2)
theorem wider {T' : Nat → Prop} (h : OMem T w t keep next lv ev m fm sl A D M fl) (hT : ∀ k, T k → T' k) (hlt : ∀ k, T' k → k < w.heap.size) : OMem T' w t keep next lv ev m fm sl A D M fl :=
  ⟨h.box, h.live, h.ends, h.ops, h.fls, h.each, h.mf, h.tm, fun k hk => ⟨hT k (h.dl k hk).1, (h.dl k hk).2⟩, fun k hk => ⟨hT k (h.de k hk).1, (h.de k hk).2⟩, fun f hf k hk => ⟨hT k (h.ds f hf k hk).1, (h.ds f hf k hk).2⟩, h.dss, ⟨hT _ h.tT.1, hT _ h.tT.2.1, hT _ h.tT.2.2⟩, hlt⟩
/-- The map of the operations turns. -/
theorem setOps {M' : Int → Option Value} {n : Nat} (h : OMem T w t keep next lv ev m fm sl A D M fl) (hu : Upd [m] w w') (hm : MapF (intK 3) w' m M' n) : OMem T w' t keep next lv ev m fm sl A D M' fl := by
  obtain ⟨n2, h2⟩ := h.fls
  exact ⟨h.box.upd hu (by simpa using h.tm.1), h.live.upd hu (fun k hk => by simpa using (h.dl k hk).2.2.1), h.ends.upd hu (fun k hk => by simpa using (h.de k hk).2.2.1), ⟨n, hm⟩, ⟨n2, h2.upd hu (by simpa using (Ne.symm h.mf))⟩,
    fun f hf => (h.each f hf).upd hu (fun k hk => by simpa using (h.ds f hf k hk).2.2.1), h.mf, h.tm, h.dl, h.de, h.ds, h.dss, h.tT, fun k hk => Nat.lt_of_lt_of_le (h.lt k hk) hu.size⟩
/-- A number of the table turns. -/
theorem setNext (h : OMem T w t keep next lv ev m fm sl A D M fl) (n : Int) : OMem T (w.setCell ⟨t, 1, none⟩ (.int .i64 n)) t keep n lv ev m fm sl A D M fl := by
  have hu : Upd [t] w (w.setCell ⟨t, 1, none⟩ (.int .i64 n)) := (Upd.refl _ _).setCell (by simp) _
  obtain ⟨n1, h1⟩ := h.ops
  obtain ⟨n2, h2⟩ := h.fls
  exact ⟨h.box.set 1 _, h.live.upd hu (fun k hk => by simpa using (h.dl k hk).2.1), h.ends.upd hu (fun k hk => by simpa using (h.de k hk).2.1), ⟨n1, h1.upd hu (by simpa using (Ne.symm h.tm.1))⟩, ⟨n2, h2.upd hu (by simpa using (Ne.symm h.tm.2))⟩,
    fun f hf => (h.each f hf).upd hu (fun k hk => by simpa using (h.ds f hf k hk).2.1), h.mf, h.tm, h.dl, h.de, h.ds, h.dss, h.tT, fun k hk => Nat.lt_of_lt_of_le (h.lt k hk) hu.size⟩
/-- The list of the live ones is another one: its block is the old one's, or new. -/
theorem setLive {w1 : World} {lv' : Value} {A' : List Int} {F : List Nat} (h : OMem T w t keep next lv ev m fm sl A D M fl) (hu : Upd F w w1) (hF : ∀ k ∈ F, lv.ownBlock = some k ∨ w.heap.size ≤ k) (ho : Owns intR 0 w1 lv' A') (hb : ∀ k, lv'.ownBlock = some k → lv.ownBlock = some k ∨ w.heap.size ≤ k) :
    OMem (Gr T w w1) (w1.setCell ⟨t, 2, none⟩ lv') t keep next lv' ev m fm sl A' D M fl := by
  have hlt := h.lt
  have hu2 : Upd [t] w1 (w1.setCell ⟨t, 2, none⟩ lv') := (Upd.refl _ _).setCell (by simp) _
  obtain ⟨n1, h1⟩ := h.ops
  obtain ⟨n2, h2⟩ := h.fls
  have hFk : ∀ k, T k → lv.ownBlock ≠ some k → k ∉ F := fun k hk hne hin => by
    rcases hF k hin with h9 | h9
    · exact hne h9
    · have := hlt k hk; omega
  have hown : ∀ k, lv'.ownBlock = some k → (lv.ownBlock = some k ∨ w.heap.size ≤ k) ∧ k < w1.heap.size := fun k hk => ⟨hb k hk, (ho.lt k hk).2⟩
  have hcase : ∀ k j, lv'.ownBlock = some k → T j → lv.ownBlock ≠ some j → k ≠ j := fun k j hk hj hne e => by
    subst e
    rcases (hown k hk).1 with h9 | h9
    · exact hne h9
    · have := hlt k hj; omega
  have nt : lv.ownBlock ≠ some t := fun e => (h.dl t e).2.1 rfl
  have nm : lv.ownBlock ≠ some m := fun e => (h.dl m e).2.2.1 rfl
  have nf : lv.ownBlock ≠ some fm := fun e => (h.dl fm e).2.2.2.1 rfl
  refine ⟨(h.box.upd hu (hFk t h.tT.1 nt)).set 2 _, ho.upd hu2 (fun k hk => by simpa using hcase k t hk h.tT.1 nt), (h.ends.upd hu (fun k hk => hFk k (h.de k hk).1 (fun e => (h.dl k e).2.2.2.2 hk))).upd hu2 (fun k hk => by simpa using (h.de k hk).2.1),
    ⟨n1, (h1.upd hu (hFk m h.tT.2.1 nm)).upd hu2 (by simpa using Ne.symm h.tm.1)⟩, ⟨n2, (h2.upd hu (hFk fm h.tT.2.2 nf)).upd hu2 (by simpa using Ne.symm h.tm.2)⟩,
    fun f hf => ((h.each f hf).upd hu (fun k hk => hFk k (h.ds f hf k hk).1 (h.ds f hf k hk).2.2.2.2.1)).upd hu2 (fun k hk => by simpa using (h.ds f hf k hk).2.1), h.mf, h.tm, fun k hk => ?_, fun k hk => ⟨.inl (h.de k hk).1, (h.de k hk).2⟩, fun f hf k hk => ?_, h.dss, ⟨.inl h.tT.1, .inl h.tT.2.1, .inl h.tT.2.2⟩, fun k hk => ?_⟩
  · refine ⟨?_, hcase k t hk h.tT.1 nt, hcase k m hk h.tT.2.1 nm, hcase k fm hk h.tT.2.2 nf, fun e => hcase k k hk (h.de k e).1 (fun e2 => (h.dl k e2).2.2.2.2 e) rfl⟩
    rcases (hown k hk).1 with h9 | h9
    · exact .inl (h.dl k h9).1
    · exact .inr ⟨h9, (hown k hk).2⟩
  · obtain ⟨a, b, c, d, e, g⟩ := h.ds f hf k hk
    exact ⟨.inl a, b, c, d, fun e2 => hcase k k e2 a e rfl, g⟩
  · have := hu.size
    have e9 : (w1.setCell ⟨t, 2, none⟩ lv').heap.size = w1.heap.size := by simp [World.setCell]
    rcases hk with h9 | h9
    · have := hlt k h9; omega
    · omega
/-- The list of the ended ones is another one. -/
theorem setEnds {w1 : World} {ev' : Value} {D' : List Int} {F : List Nat} (h : OMem T w t keep next lv ev m fm sl A D M fl) (hu : Upd F w w1) (hF : ∀ k ∈ F, ev.ownBlock = some k ∨ w.heap.size ≤ k) (ho : OwnQ 0 w1 ev' D') (hb : ∀ k, ev'.ownBlock = some k → ev.ownBlock = some k ∨ (w.heap.size ≤ k ∧ k < w1.heap.size)) :
    OMem (Gr T w w1) (w1.setCell ⟨t, 3, none⟩ ev') t keep next lv ev' m fm sl A D' M fl := by
  have hlt := h.lt
  have hu2 : Upd [t] w1 (w1.setCell ⟨t, 3, none⟩ ev') := (Upd.refl _ _).setCell (by simp) _
  obtain ⟨n1, h1⟩ := h.ops
  obtain ⟨n2, h2⟩ := h.fls
  have hFk : ∀ k, T k → ev.ownBlock ≠ some k → k ∉ F := fun k hk hne hin => by
    rcases hF k hin with h9 | h9
    · exact hne h9
    · have := hlt k hk; omega
  have hcase : ∀ k j, ev'.ownBlock = some k → T j → ev.ownBlock ≠ some j → k ≠ j := fun k j hk hj hne e => by
    subst e
    rcases hb k hk with h9 | h9
    · exact hne h9
    · have := hlt k hj; omega
  have nt : ev.ownBlock ≠ some t := fun e => (h.de t e).2.1 rfl
  have nm : ev.ownBlock ≠ some m := fun e => (h.de m e).2.2.1 rfl
  have nf : ev.ownBlock ≠ some fm := fun e => (h.de fm e).2.2.2 rfl
  refine ⟨(h.box.upd hu (hFk t h.tT.1 nt)).set 3 _, (h.live.upd hu (fun k hk => hFk k (h.dl k hk).1 (h.dl k hk).2.2.2.2)).upd hu2 (fun k hk => by simpa using (h.dl k hk).2.1), ho.upd hu2 (fun k hk => by simpa using hcase k t hk h.tT.1 nt),
    ⟨n1, (h1.upd hu (hFk m h.tT.2.1 nm)).upd hu2 (by simpa using Ne.symm h.tm.1)⟩, ⟨n2, (h2.upd hu (hFk fm h.tT.2.2 nf)).upd hu2 (by simpa using Ne.symm h.tm.2)⟩,
    fun f hf => ((h.each f hf).upd hu (fun k hk => hFk k (h.ds f hf k hk).1 (h.ds f hf k hk).2.2.2.2.2)).upd hu2 (fun k hk => by simpa using (h.ds f hf k hk).2.1), h.mf, h.tm, fun k hk => ?_, fun k hk => ?_, fun f hf k hk => ?_, h.dss, ⟨.inl h.tT.1, .inl h.tT.2.1, .inl h.tT.2.2⟩, fun k hk => ?_⟩
  · obtain ⟨a, b, c, d, e⟩ := h.dl k hk
    exact ⟨.inl a, b, c, d, fun e2 => hcase k k e2 a e rfl⟩
  · refine ⟨?_, hcase k t hk h.tT.1 nt, hcase k m hk h.tT.2.1 nm, hcase k fm hk h.tT.2.2 nf⟩
    rcases hb k hk with h9 | h9
    · exact .inl (h.de k h9).1
    · exact .inr h9
  · obtain ⟨a, b, c, d, e, g⟩ := h.ds f hf k hk
    exact ⟨.inl a, b, c, d, e, fun e2 => hcase k k e2 a g rfl⟩
  · have := hu.size
    have e9 : (w1.setCell ⟨t, 3, none⟩ ev').heap.size = w1.heap.size := by simp [World.setCell]
    rcases hk with h9 | h9
    · have := hlt k h9; omega
    · omega
/-- A flight's list is another one. -/
theorem setFl {w1 : World} {g : Fli} {v' : Value} {l' : List Int} {F : List Nat} (h : OMem T w t keep next lv ev m fm sl A D M fl) (hu : Upd F w w1) (hF : ∀ k ∈ F, k = fm ∨ (fl g ≠ [] ∧ (sl g).ownBlock = some k) ∨ w.heap.size ≤ k)
    (hm : ∃ n, MapS fliK w1 fm (fun f => if (if f = g then l' else fl f) = [] then none else some (if f = g then v' else sl f)) n) (ho : l' ≠ [] → Owns intR 0 w1 v' l') (hb : l' ≠ [] → ∀ k, v'.ownBlock = some k → (fl g ≠ [] ∧ (sl g).ownBlock = some k) ∨ w.heap.size ≤ k) :
    OMem (Gr T w w1) w1 t keep next lv ev m fm (fun f => if f = g then v' else sl f) A D M (fun f => if f = g then l' else fl f) := by
  have hlt := h.lt
  obtain ⟨n1, h1⟩ := h.ops
  have hFk : ∀ k, T k → k ≠ fm → (∀ _ : fl g ≠ [], (sl g).ownBlock ≠ some k) → k ∉ F := fun k hk h0 hne hin => by
    rcases hF k hin with h9 | ⟨h8, h9⟩ | h9
    · exact h0 h9
    · exact hne h8 h9
    · have := hlt k hk; omega
  have hcase : l' ≠ [] → ∀ k j, v'.ownBlock = some k → T j → (∀ _ : fl g ≠ [], (sl g).ownBlock ≠ some j) → k ≠ j := fun hl k j hk hj hne e => by
    subst e
    rcases hb hl k hk with ⟨h8, h9⟩ | h9
    · exact hne h8 h9
    · have := hlt k hj; omega
  have nt : ∀ _ : fl g ≠ [], (sl g).ownBlock ≠ some t := fun hg e => (h.ds g hg t e).2.1 rfl
  have nm : ∀ _ : fl g ≠ [], (sl g).ownBlock ≠ some m := fun hg e => (h.ds g hg m e).2.2.1 rfl
  have nf : ∀ _ : fl g ≠ [], (sl g).ownBlock ≠ some fm := fun hg e => (h.ds g hg fm e).2.2.2.1 rfl
  refine ⟨h.box.upd hu (hFk t h.tT.1 h.tm.2 nt), h.live.upd hu (fun k hk => hFk k (h.dl k hk).1 (h.dl k hk).2.2.2.1 (fun hg e => (h.ds g hg k e).2.2.2.2.1 hk)), h.ends.upd hu (fun k hk => hFk k (h.de k hk).1 (h.de k hk).2.2.2 (fun hg e => (h.ds g hg k e).2.2.2.2.2 hk)),
    ⟨n1, h1.upd hu (hFk m h.tT.2.1 h.mf nm)⟩, hm, fun f hf => ?_, h.mf, h.tm, fun k hk => ⟨.inl (h.dl k hk).1, (h.dl k hk).2⟩, fun k hk => ⟨.inl (h.de k hk).1, (h.de k hk).2⟩, fun f hf k hk => ?_, fun f f2 hff hf hf2 k hk => ?_, ⟨.inl h.tT.1, .inl h.tT.2.1, .inl h.tT.2.2⟩, fun k hk => ?_⟩
  · by_cases hg : f = g
    · rw [if_pos hg] at hf ⊢
      rw [if_pos hg]
      exact ho hf
    · rw [if_neg hg] at hf ⊢
      rw [if_neg hg]
      exact (h.each f hf).upd hu (fun k hk => hFk k (h.ds f hf k hk).1 (h.ds f hf k hk).2.2.2.1 (fun hg2 e => h.dss f g hg hf hg2 k hk e))
  · by_cases hg : f = g
    · rw [if_pos hg] at hf hk
      refine ⟨?_, hcase hf k t hk h.tT.1 nt, hcase hf k m hk h.tT.2.1 nm, hcase hf k fm hk h.tT.2.2 nf, fun e => hcase hf k k hk (h.dl k e).1 (fun hg2 e2 => (h.ds g hg2 k e2).2.2.2.2.1 e) rfl, fun e => hcase hf k k hk (h.de k e).1 (fun hg2 e2 => (h.ds g hg2 k e2).2.2.2.2.2 e) rfl⟩
      rcases hb hf k hk with ⟨h8, h9⟩ | h9
      · exact .inl (h.ds g h8 k h9).1
      · exact .inr ⟨h9, ((ho hf).lt k hk).2⟩
    · rw [if_neg hg] at hf hk
      obtain ⟨a, b⟩ := h.ds f hf k hk
      exact ⟨.inl a, b⟩
  · by_cases hg : f = g
    · have hg2 : f2 ≠ g := fun e => hff (hg.trans e.symm)
      rw [if_pos hg] at hf hk
      rw [if_neg hg2] at hf2 ⊢
      exact fun e => hcase hf k k hk (h.ds f2 hf2 k e).1 (fun h8 e2 => h.dss g f2 (Ne.symm hg2) h8 hf2 k e2 e) rfl
    · rw [if_neg hg] at hf hk
      by_cases hg2 : f2 = g
      · rw [if_pos hg2] at hf2 ⊢
        exact fun e => hcase hf2 k k e (h.ds f hf k hk).1 (fun h8 e2 => h.dss f g hg hf h8 k hk e2) rfl
      · rw [if_neg hg2] at hf2 ⊢
        exact h.dss f f2 hff hf hf2 k hk
  · have := hu.size
    rcases hk with h9 | h9
    · have := hlt k h9; omega
    · omega
end OMem
end Go.Proofs.Ytddmajgadaooaaa
