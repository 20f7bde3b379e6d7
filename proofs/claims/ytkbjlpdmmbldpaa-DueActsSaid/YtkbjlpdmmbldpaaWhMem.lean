/- A wheel in memory. -/
import Derived.Test.YtkbjlpdmmbldpaaWhFind
import Derived.Test.YtkbjlpdmmbldpaaUpdP
import Derived.Test.YtkbjlpdmmbldpaaIntR
set_option linter.unusedVariables false
namespace Go.Proofs.Ytkbjlpdmmbldpaa
open Go.RowKit

def updN {α : Type} (f : Nat → α) (s : Nat) (v : α) : Nat → α := fun i => if i = s then v else f i
theorem updN_same {α : Type} (f : Nat → α) (s : Nat) (v : α) : updN f s v s = v := if_pos rfl
theorem updN_other {α : Type} (f : Nat → α) {s i : Nat} (v : α) (h : i ≠ s) : updN f s v i = f i := if_neg h
def cellsW (now m sm : Nat) (rv : Nat → Value) : List Value := [.int .u64 (now : Int), .map (some m), .map (some sm)] ++ (List.range 96).map rv
theorem cellsW_row {now m sm : Nat} {rv : Nat → Value} {s : Nat} (hs : s < 96) : (cellsW now m sm rv)[3 + s]? = some (rv s) := by
  unfold cellsW
  rw [List.getElem?_append_right (by simp)]
  simp only [List.length_cons, List.length_nil, List.getElem?_map]
  rw [show 3 + s - (0 + 1 + 1 + 1) = s from by omega, List.getElem?_range hs]
  rfl
theorem cellsW_set {now m sm : Nat} {rv : Nat → Value} {s : Nat} (hs : s < 96) (v : Value) : (cellsW now m sm rv).set (3 + s) v = cellsW now m sm (updN rv s v) := by
  unfold cellsW
  rw [List.set_append_right _ _ (by simp)]
  congr 1
  simp only [List.length_cons, List.length_nil]
  rw [show 3 + s - (0 + 1 + 1 + 1) = s from by omega]
  apply List.ext_getElem?
  intro i
  rw [List.getElem?_set]
  by_cases h : s = i
  · subst h
    rw [if_pos rfl, if_pos (by simpa using hs)]
    simp [hs, updN]
  · rw [if_neg h]
    simp only [List.getElem?_map]
    by_cases hi : i < 96
    · rw [List.getElem?_range hi]
      simp [updN, Ne.symm h]
    · rw [List.getElem?_eq_none (by simp; omega)]
      rfl
/-- A wheel's memory. -/
structure WMem (T : Nat → Prop) (w : World) (p now m sm n : Nat) (rv : Nat → Value) (M S : Int → Option Value) (R : Nat → List Int) : Prop where
  box : Cel w p (cellsW now m sm rv)
  ats : MapF (intK 3) w m M n
  spots : ∃ k, MapF (intK 3) w sm S k
  each : ∀ s, s < 96 → Owns intR 0 w (rv s) (R s)
  ne : p ≠ m ∧ p ≠ sm ∧ m ≠ sm
  own : ∀ s, s < 96 → ∀ k, (rv s).ownBlock = some k → T k ∧ k ≠ p ∧ k ≠ m ∧ k ≠ sm
  apart : ∀ s s', s < 96 → s' < 96 → s ≠ s' → ∀ k, (rv s).ownBlock = some k → (rv s').ownBlock ≠ some k
  tT : T p ∧ T m ∧ T sm
  lt : ∀ k, T k → k < w.heap.size
namespace WMem
variable {T : Nat → Prop} {w w' : World} {p now m sm n : Nat} {rv : Nat → Value} {M S : Int → Option Value} {R : Nat → List Int}
theorem c0 (h : WMem T w p now m sm n rv M S R) : w.cell? ⟨p, 0, none⟩ = some (.int .u64 (now : Int)) := h.box.get (i := 0) rfl
theorem f0 (h : WMem T w p now m sm n rv M S R) : w.frozen? ⟨p, 0, none⟩ = false := h.box.free (i := 0) (v := .int .u64 (now : Int)) rfl
theorem c1 (h : WMem T w p now m sm n rv M S R) : w.cell? ⟨p, 1, none⟩ = some (.map (some m)) := h.box.get (i := 1) rfl
theorem c2 (h : WMem T w p now m sm n rv M S R) : w.cell? ⟨p, 2, none⟩ = some (.map (some sm)) := h.box.get (i := 2) rfl
theorem row (h : WMem T w p now m sm n rv M S R) {s : Nat} (hs : s < 96) : w.cell? ⟨p, 3 + s, none⟩ = some (rv s) := h.box.get (cellsW_row hs)
theorem rowFree (h : WMem T w p now m sm n rv M S R) {s : Nat} (hs : s < 96) : w.frozen? ⟨p, 3 + s, none⟩ = false := h.box.free (cellsW_row hs)
/-- Other blocks turn. -/
theorem upd {F : List Nat} (h : WMem T w p now m sm n rv M S R) (hu : Upd F w w') (hF : ∀ k ∈ F, ¬ T k) : WMem T w' p now m sm n rv M S R := by
  have hn : ∀ k, T k → k ∉ F := fun k hk hin => hF k hin hk
  obtain ⟨n2, h2⟩ := h.spots
  exact ⟨h.box.upd hu (hn _ h.tT.1), h.ats.upd hu (hn _ h.tT.2.1), ⟨n2, h2.upd hu (hn _ h.tT.2.2)⟩, fun s hs => (h.each s hs).upd hu (fun k hk => hn k (h.own s hs k hk).1), h.ne, h.own, h.apart, h.tT, fun k hk => Nat.lt_of_lt_of_le (h.lt k hk) hu.size⟩
theorem below (h : WMem T w p now m sm n rv M S R) (hb : Below w.heap.size w w') : WMem T w' p now m sm n rv M S R := h.upd (Upd.ofBelow [] hb) (by simp)
theorem updP {P : Nat → Prop} (h : WMem T w p now m sm n rv M S R) (hu : UpdP P w w') (hP : ∀ k, P k → ¬ T k) : WMem T w' p now m sm n rv M S R := by
  classical
  refine h.upd (F := (List.range w.heap.size).filter fun k => decide (P k)) ⟨hu.os, hu.tape, hu.output, hu.size, fun k hk hn => hu.block k hk (fun hp => hn ?_)⟩ (fun k hk => ?_)
  · rw [List.mem_filter]; exact ⟨List.mem_range.2 hk, decide_eq_true hp⟩
  · rw [List.mem_filter] at hk; exact hP k (of_decide_eq_true hk.2)
theorem wider {T' : Nat → Prop} (h : WMem T w p now m sm n rv M S R) (hT : ∀ k, T k → T' k) (hlt : ∀ k, T' k → k < w.heap.size) : WMem T' w p now m sm n rv M S R :=
  ⟨h.box, h.ats, h.spots, h.each, h.ne, fun s hs k hk => ⟨hT k (h.own s hs k hk).1, (h.own s hs k hk).2⟩, h.apart, ⟨hT _ h.tT.1, hT _ h.tT.2.1, hT _ h.tT.2.2⟩, hlt⟩
/-- Blocks that are none of it need not be its own. -/
theorem less {T' : Nat → Prop} (h : WMem T w p now m sm n rv M S R) (hs : ∀ k, T' k → T k) (hT : T' p ∧ T' m ∧ T' sm) (ho : ∀ s, s < 96 → ∀ k, (rv s).ownBlock = some k → T' k) : WMem T' w p now m sm n rv M S R :=
  ⟨h.box, h.ats, h.spots, h.each, h.ne, fun s hs k hk => ⟨ho s hs k hk, (h.own s hs k hk).2⟩, h.apart, hT, fun k hk => h.lt k (hs k hk)⟩
/-- The ticks turn. -/
theorem setAts {M' : Int → Option Value} {n' : Nat} (h : WMem T w p now m sm n rv M S R) (hu : Upd [m] w w') (hm : MapF (intK 3) w' m M' n') : WMem T w' p now m sm n' rv M' S R := by
  obtain ⟨n2, h2⟩ := h.spots
  exact ⟨h.box.upd hu (by simpa using h.ne.1), hm, ⟨n2, h2.upd hu (by simpa using Ne.symm h.ne.2.2)⟩, fun s hs => (h.each s hs).upd hu (fun k hk => by simpa using (h.own s hs k hk).2.2.1), h.ne, h.own, h.apart, h.tT, fun k hk => Nat.lt_of_lt_of_le (h.lt k hk) hu.size⟩
/-- The places turn. -/
theorem setSpots {S' : Int → Option Value} {k' : Nat} (h : WMem T w p now m sm n rv M S R) (hu : Upd [sm] w w') (hm : MapF (intK 3) w' sm S' k') : WMem T w' p now m sm n rv M S' R :=
  ⟨h.box.upd hu (by simpa using h.ne.2.1), h.ats.upd hu (by simpa using h.ne.2.2), ⟨k', hm⟩, fun s hs => (h.each s hs).upd hu (fun k hk => by simpa using (h.own s hs k hk).2.2.2), h.ne, h.own, h.apart, h.tT, fun k hk => Nat.lt_of_lt_of_le (h.lt k hk) hu.size⟩
/-- The tick of the wheel. -/
theorem setNow (h : WMem T w p now m sm n rv M S R) (now2 : Nat) : WMem T (w.setCell ⟨p, 0, none⟩ (.int .u64 (now2 : Int))) p now2 m sm n rv M S R := by
  have hu : Upd [p] w (w.setCell ⟨p, 0, none⟩ (.int .u64 (now2 : Int))) := (Upd.refl _ _).setCell (by simp) _
  obtain ⟨n2, h2⟩ := h.spots
  exact ⟨h.box.set 0 _, h.ats.upd hu (by simpa using Ne.symm h.ne.1), ⟨n2, h2.upd hu (by simpa using Ne.symm h.ne.2.1)⟩, fun s hs => (h.each s hs).upd hu (fun k hk => by simpa using (h.own s hs k hk).2.1), h.ne, h.own, h.apart, h.tT, fun k hk => Nat.lt_of_lt_of_le (h.lt k hk) hu.size⟩
/-- A row is another one: its block is the old one's, or new. -/
theorem setRow {w1 : World} {s : Nat} {v' : Value} {l' : List Int} {F : List Nat} (h : WMem T w p now m sm n rv M S R) (hs : s < 96) (hu : Upd F w w1) (hF : ∀ k ∈ F, (rv s).ownBlock = some k ∨ w.heap.size ≤ k) (ho : Owns intR 0 w1 v' l') (hb : ∀ k, v'.ownBlock = some k → (rv s).ownBlock = some k ∨ (w.heap.size ≤ k ∧ k < w1.heap.size)) :
    WMem (Gr T w w1) (w1.setCell ⟨p, 3 + s, none⟩ v') p now m sm n (updN rv s v') M S (updN R s l') := by
  have hsz := hu.size
  have hlt := h.lt
  have nF : ∀ k, T k → (rv s).ownBlock ≠ some k → k ∉ F := fun k hk hne hin => by
    rcases hF k hin with h9 | h9
    · exact hne h9
    · have := hlt k hk; omega
  have np : (rv s).ownBlock ≠ some p := fun e => (h.own s hs p e).2.1 rfl
  have nm : (rv s).ownBlock ≠ some m := fun e => (h.own s hs m e).2.2.1 rfl
  have nsm : (rv s).ownBlock ≠ some sm := fun e => (h.own s hs sm e).2.2.2 rfl
  have hu2 : Upd [p] w1 (w1.setCell ⟨p, 3 + s, none⟩ v') := (Upd.refl _ _).setCell (by simp) _
  have hp := hlt p h.tT.1
  have hm := hlt m h.tT.2.1
  have hsm := hlt sm h.tT.2.2
  obtain ⟨n2, h2⟩ := h.spots
  have hbp : ∀ k, v'.ownBlock = some k → k ≠ p ∧ k ≠ m ∧ k ≠ sm := fun k hk => by
    rcases hb k hk with h9 | h9
    · exact (h.own s hs k h9).2
    · omega
  refine ⟨?_, (h.ats.upd hu (nF m h.tT.2.1 nm)).upd hu2 (by simpa using Ne.symm h.ne.1), ⟨n2, (h2.upd hu (nF sm h.tT.2.2 nsm)).upd hu2 (by simpa using Ne.symm h.ne.2.1)⟩, fun i hi => ?_, h.ne, fun i hi k hk => ?_, fun i i' hi hi' hii k hk => ?_, ⟨.inl h.tT.1, .inl h.tT.2.1, .inl h.tT.2.2⟩, fun k hk => ?_⟩
  · have := (h.box.upd hu (nF p h.tT.1 np)).set (3 + s) v'
    rwa [cellsW_set hs] at this
  · by_cases e : i = s
    · subst e
      rw [updN_same, updN_same]
      exact ho.upd hu2 (fun k hk => by simpa using (hbp k hk).1)
    · rw [updN_other _ _ e, updN_other _ _ e]
      refine ((h.each i hi).upd hu (fun k hk => nF k (h.own i hi k hk).1 (fun e2 => h.apart i s hi hs e k hk e2))).upd hu2 (fun k hk => by simpa using (h.own i hi k hk).2.1)
  · by_cases e : i = s
    · subst e
      rw [updN_same] at hk
      refine ⟨?_, hbp k hk⟩
      rcases hb k hk with h9 | h9
      · exact .inl (h.own i hi k h9).1
      · exact .inr h9
    · rw [updN_other _ _ e] at hk
      exact ⟨.inl (h.own i hi k hk).1, (h.own i hi k hk).2⟩
  · by_cases e : i = s
    · subst e
      rw [updN_same] at hk
      rw [updN_other _ _ (Ne.symm hii)]
      intro e2
      rcases hb k hk with h9 | h9
      · exact h.apart i i' hi hi' hii k h9 e2
      · have := hlt k (h.own i' hi' k e2).1; omega
    · rw [updN_other _ _ e] at hk
      by_cases e' : i' = s
      · subst e'
        rw [updN_same]
        intro e2
        rcases hb k e2 with h9 | h9
        · exact h.apart i i' hi hi' hii k hk h9
        · have := hlt k (h.own i hi k hk).1; omega
      · rw [updN_other _ _ e']
        exact h.apart i i' hi hi' hii k hk
  · have h3 := hu2.size
    rcases hk with h9 | h9
    · have := hlt k h9; omega
    · omega
end WMem
end Go.Proofs.Ytkbjlpdmmbldpaa
