/- Invocations: the plain law of closing, and of loads. -/
import Derived.Test.YtogajmbkjojdhaaInvOpn
set_option linter.unusedVariables false
set_option linter.unusedSimpArgs false
set_option maxRecDepth 100000
namespace Go.Proofs.Ytogajmbkjojdhaa
open Go.RowKit

theorem inj_nm {L : List Iv} (h : L.Pairwise fun x y => ¬ (x.tn = y.tn ∧ x.nm = y.nm)) {x y : Iv} (hx : x ∈ L) (hy : y ∈ L) (e : x.tn = y.tn ∧ x.nm = y.nm) : x = y := by
  obtain ⟨i, hi, rfl⟩ := List.mem_iff_getElem.1 hx
  obtain ⟨j, hj, rfl⟩ := List.mem_iff_getElem.1 hy
  have hp := List.pairwise_iff_getElem.1 h
  rcases Nat.lt_trichotomy i j with h9 | rfl | h9
  · exact absurd e (hp i j hi hj h9)
  · rfl
  · exact absurd ⟨e.1.symm, e.2.symm⟩ (hp j i hj hi h9)
theorem fNm_of {L : List Iv} (h : L.Pairwise fun x y => ¬ (x.tn = y.tn ∧ x.nm = y.nm)) {x : Iv} (hx : x ∈ L) : fNm L x.tn x.nm = some x := by
  cases hf : fNm L x.tn x.nm with
  | none => exact absurd ⟨rfl, rfl⟩ (fNm_none.1 hf x hx)
  | some y =>
    obtain ⟨hy, he⟩ := fNm_mem hf
    rw [inj_nm h hy hx he]
theorem mem_drop {L : List Iv} {n : Int} {x : Iv} : x ∈ dropI L n ↔ x ∈ L ∧ x.no ≠ n := by unfold dropI; rw [List.mem_filter]; simp [isNo]
theorem InvOk.drop {c : Cfg} {last : Int} {L : List Iv} (ho : InvOk c last L) (n : Int) : InvOk c last (dropI L n) := by
  have hs : (dropI L n).Sublist L := List.filter_sublist
  exact ⟨ho.asc.sublist hs, fun x hx => ho.low x (hs.subset hx), fun x hx => ho.high x (hs.subset hx), ho.names.sublist hs, fun x hx => ho.tens x (hs.subset hx), fun x hx => ho.loads x (hs.subset hx), ho.cap, ho.last, fun x hx => ho.nms x (hs.subset hx)⟩
theorem fNo_drop {L : List Iv} (ha : L.Pairwise fun x y => x.no < y.no) (n k : Int) : fNo (dropI L n) k = if k = n then none else fNo L k := by
  by_cases hk : k = n
  · rw [if_pos hk]
    exact fNo_none.2 fun x hx => by rw [hk]; exact (mem_drop.1 hx).2
  · rw [if_neg hk]
    cases hf : fNo L k with
    | none => exact fNo_none.2 fun x hx => fNo_none.1 hf x (mem_drop.1 hx).1
    | some x =>
      obtain ⟨hx, rfl⟩ := fNo_mem hf
      exact fNo_of (ha.sublist List.filter_sublist) (mem_drop.2 ⟨hx, hk⟩)
theorem fNm_drop {c : Cfg} {last : Int} {L : List Iv} (ho : InvOk c last L) {x : Iv} (hx : x ∈ L) (t : Int) (s : ByteArray) : fNm (dropI L x.no) t s = if (t, s) = (x.tn, x.nm) then none else fNm L t s := by
  by_cases hk : (t, s) = (x.tn, x.nm)
  · rw [if_pos hk]
    simp only [Prod.mk.injEq] at hk
    refine fNm_none.2 fun y hy e => ?_
    obtain ⟨h1, h2⟩ := mem_drop.1 hy
    have := inj_nm ho.names h1 hx ⟨e.1.trans hk.1, e.2.trans hk.2⟩
    exact h2 (by rw [this])
  · rw [if_neg hk]
    cases hf : fNm L t s with
    | none => exact fNm_none.2 fun y hy => fNm_none.1 hf y (mem_drop.1 hy).1
    | some y =>
      obtain ⟨hy, rfl, rfl⟩ := fNm_mem hf
      refine fNm_of (ho.names.sublist List.filter_sublist) (mem_drop.2 ⟨hy, fun e => hk ?_⟩)
      rw [inj_no ho.asc hy hx e]
theorem drop_len {L : List Iv} (ha : L.Pairwise fun x y => x.no < y.no) {x : Iv} (hx : x ∈ L) : (dropI L x.no).length + 1 = L.length := by
  induction L with
  | nil => cases hx
  | cons a L ih =>
    obtain ⟨h1, h2⟩ := List.pairwise_cons.1 ha
    unfold dropI at *
    rcases List.mem_cons.1 hx with rfl | hx'
    · rw [List.filter_cons, if_neg (by simp [isNo])]
      have : L.filter (fun y => !isNo x.no y) = L := List.filter_eq_self.2 fun y hy => by have := h1 y hy; simp [isNo]; omega
      rw [this, List.length_cons]
    · have h3 := h1 x hx'
      rw [List.filter_cons, if_pos (by simp [isNo]; omega), List.length_cons, List.length_cons, ih h2 hx']
theorem mem_more {L : List Iv} {n d : Int} {y : Iv} : y ∈ moreI L n d ↔ ∃ x ∈ L, y = if isNo n x = true then { x with ld := x.ld + d } else x := by
  unfold moreI
  rw [List.mem_map]
  exact ⟨fun ⟨x, hx, e⟩ => ⟨x, hx, e.symm⟩, fun ⟨x, hx, e⟩ => ⟨x, hx, e.symm⟩⟩
theorem more_parts (n d : Int) (x : Iv) : (if isNo n x = true then { x with ld := x.ld + d } else x).no = x.no ∧ (if isNo n x = true then { x with ld := x.ld + d } else x).tn = x.tn ∧ (if isNo n x = true then { x with ld := x.ld + d } else x).nm = x.nm := by
  split <;> exact ⟨rfl, rfl, rfl⟩
theorem InvOk.more {c : Cfg} {last : Int} {L : List Iv} (ho : InvOk c last L) (n d : Int) (hd : ∀ x ∈ L, x.no = n → 0 ≤ x.ld + d ∧ x.ld + d ≤ c.cap) : InvOk c last (moreI L n d) := by
  have hm : ∀ {P : Iv → Prop}, (∀ x ∈ L, P x ∧ (x.no = n → P { x with ld := x.ld + d })) → ∀ x ∈ moreI L n d, P x := fun {P} a x hx => by
    obtain ⟨y, hy, rfl⟩ := mem_more.1 hx
    by_cases h : isNo n y = true
    · rw [if_pos h]; exact (a y hy).2 (by simpa [isNo] using h)
    · rw [if_neg h]; exact (a y hy).1
  refine ⟨?_, hm fun x hx => ⟨ho.low x hx, fun _ => ho.low x hx⟩, hm fun x hx => ⟨ho.high x hx, fun _ => ho.high x hx⟩, ?_, hm fun x hx => ⟨ho.tens x hx, fun _ => ho.tens x hx⟩, hm fun x hx => ⟨ho.loads x hx, fun e => hd x hx e⟩, ho.cap, ho.last, hm fun x hx => ⟨ho.nms x hx, fun _ => ho.nms x hx⟩⟩
  · unfold moreI
    rw [List.pairwise_map]
    refine ho.asc.imp fun {x y} h => ?_
    rw [(more_parts n d x).1, (more_parts n d y).1]
    exact h
  · unfold moreI
    rw [List.pairwise_map]
    refine ho.names.imp fun {x y} h => ?_
    rw [(more_parts n d x).2.1, (more_parts n d y).2.1, (more_parts n d x).2.2, (more_parts n d y).2.2]
    exact h
theorem fNo_more (L : List Iv) (n d k : Int) : fNo (moreI L n d) k = if k = n then (fNo L n).map (fun x => { x with ld := x.ld + d }) else fNo L k := by
  unfold fNo moreI
  rw [List.find?_map]
  have e : (isNo k ∘ fun x => if isNo n x = true then { x with ld := x.ld + d } else x) = isNo k := by
    funext x
    show isNo k (if isNo n x = true then { x with ld := x.ld + d } else x) = isNo k x
    unfold isNo
    rw [show (if decide (x.no = n) = true then { x with ld := x.ld + d } else x).no = x.no from by split <;> rfl]
  rw [e]
  by_cases hk : k = n
  · subst hk
    rw [if_pos rfl]
    cases hf : List.find? (isNo k) L with
    | none => rfl
    | some x =>
      have := List.find?_some hf
      simp [this]
  · rw [if_neg hk]
    cases hf : List.find? (isNo k) L with
    | none => rfl
    | some x =>
      have h1 := List.find?_some hf
      have h2 : isNo n x = false := by
        unfold isNo at h1 ⊢
        have := of_decide_eq_true h1
        exact decide_eq_false (by omega)
      simp [h2]
theorem fNm_more (L : List Iv) (n d t : Int) (s : ByteArray) : (fNm (moreI L n d) t s).map Iv.no = (fNm L t s).map Iv.no := by
  unfold fNm moreI
  rw [List.find?_map]
  have e : (isNm t s ∘ fun x => if isNo n x = true then { x with ld := x.ld + d } else x) = isNm t s := by
    funext x
    show isNm t s (if isNo n x = true then { x with ld := x.ld + d } else x) = isNm t s x
    unfold isNm
    rw [(more_parts n d x).2.1, (more_parts n d x).2.2]
  rw [e]
  cases List.find? (isNm t s) L with
  | none => rfl
  | some x => show some _ = some x.no; rw [(more_parts n d x).1]
theorem more_len (L : List Iv) (n d : Int) : (moreI L n d).length = L.length := by unfold moreI; rw [List.length_map]
end Go.Proofs.Ytogajmbkjojdhaa
