/- A region whose order is open: first what only reads or makes new memory (in whatever order), then the rest, one behind the other. Of no program. -/
import Derived.Deep.Quiet
import Derived.StillTail
import Derived.WalkKit
set_option linter.unusedVariables false
namespace Go.Proofs.Ytogajmbkjojdhaa
namespace Tail
open Go

/-- Edges go to earlier operations alone. -/
def lowerB (ops : Array Oper) : Bool :=
  (List.range ops.size).all fun i => match ops[i]? with | some o => o.after.toList.all (fun e => decide (e.on < i)) | none => true

theorem lower_spec {ops : Array Oper} (h : lowerB ops = true) {i : Nat} {o : Oper} (hi : ops[i]? = some o) : ∀ e ∈ o.after, e.on < i := by
  intro e he
  have hlt : i < ops.size := (Array.getElem?_eq_some_iff.1 hi).1
  have h1 := List.all_eq_true.1 h i (List.mem_range.2 hlt)
  rw [hi] at h1
  exact of_decide_eq_true (List.all_eq_true.1 h1 e (by simpa using he))

/-- The guards of the first n name one of the first n. -/
def guardB (ops : Array Oper) (n : Nat) : Bool :=
  (List.range n).all fun i => match ops[i]? with | some o => (match o.guard with | some (j, _) => decide (j < n) | none => true) | none => true

/-- All that is asked of a region: n: how many come first. -/
def okB (md : Region.Mode) (l : List Oper) (n : Nat) : Bool :=
  lowerB l.toArray && guardB l.toArray n && Region.sinkB md l.toArray n && Region.chainB md l.toArray n && decide (n < l.length) && Region.lexB md (l.take n).toArray

section
variable {P : Program} {ops : Array Oper} {md : Region.Mode} {Q : Exit → Act → World → Prop}

theorem all_listed {listed : Array Bool} (hlow : lowerB ops = true) {n : Nat} (hn : n ≤ ops.size) (hr : ∀ i, i < n → i ∉ Region.ready md ops listed) (hsz : n ≤ listed.size) :
    ∀ j, j < n → listed.getD j true = true := by
  intro j
  induction j using Nat.strongRecOn with
  | _ j ih =>
    intro hj
    cases hl : listed.getD j true with
    | true => rfl
    | false =>
      exfalso
      refine hr j hj (mem_ready.2 ⟨hl, ops[j]'(by omega), Array.getElem?_eq_getElem (by omega), fun e he hb => ?_⟩)
      have hlt := lower_spec hlow (Array.getElem?_eq_getElem (by omega : j < ops.size)) e he
      have h1 := ih e.on hlt (by omega)
      have hsl : e.on < listed.size := by omega
      simp [hsl] at h1 ⊢
      exact h1

theorem mem_ready_lt {j : Nat} {listed : Array Bool} (h : j ∈ Region.ready md ops listed) : j < ops.size := by
  obtain ⟨_, o, ho, _⟩ := mem_ready.1 h
  exact (Array.getElem?_eq_some_iff.1 ho).1

/-- The tail, one behind the other. -/
theorem wpAny_tail (hlow : lowerB ops = true) {n : Nat} (hc : Region.chainB md ops n = true) : ∀ (l : List Oper) (t g : Nat) (listed : Array Bool) (a : Act) (w : World),
    (∀ j, l[j]? = ops[t + j]?) → n ≤ t → l.length ≤ g → listed.size = ops.size → (∀ j, j < t → listed.getD j false = true) → (∀ j, t ≤ j → j < ops.size → listed.getD j true = false) →
    wpList P ops Q l a w → wpAny P md ops Q g listed a w
  | [], t, g, listed, a, w, hl, hnt, hg, hsz, hd, hu, h => by
    have hts : ops.size ≤ t := by
      rcases Nat.lt_or_ge t ops.size with h' | h'
      · have := hl 0; simp [Array.getElem?_eq_getElem h'] at this
      · exact h'
    have hr : Region.ready md ops listed = [] := by
      rw [List.eq_nil_iff_forall_not_mem]
      intro j hj
      have hjlt := mem_ready_lt hj
      have h1 := (mem_ready.1 hj).1
      have h2 := hd j (by omega)
      have hjs : j < listed.size := by omega
      simp [hjs] at h1 h2
      rw [h2] at h1; cases h1
    have hq : Q .normal a w := h
    cases g with
    | zero => exact ⟨hr, hq⟩
    | succ g => exact ⟨fun _ => hq, fun i hi => by rw [hr] at hi; cases hi⟩
  | o :: l, t, g, listed, a, w, hl, hnt, hg, hsz, hd, hu, h => by
    have h0 : ops[t]? = some o := by simpa using (hl 0).symm
    have hlt : t < ops.size := (Array.getElem?_eq_some_iff.1 h0).1
    have hrt : t ∈ Region.ready md ops listed := mem_ready.2 ⟨hu t (Nat.le_refl _) hlt, o, h0, fun e he _ => hd _ (lower_spec hlow h0 e he)⟩
    cases g with
    | zero => simp at hg
    | succ g =>
      refine ⟨fun hr => (by rw [hr] at hrt; cases hrt), fun i hi => ?_⟩
      have hil := mem_ready_lt hi
      have hit : i = t := by
        rcases Nat.lt_trichotomy i t with h1 | h1 | h1
        · exfalso
          have h2 := hd i h1
          have h3 := (mem_ready.1 hi).1
          have his : i < listed.size := by omega
          simp [his] at h2 h3
          rw [h2] at h3; cases h3
        · exact h1
        · exfalso
          obtain ⟨_, oi, hoi, hall⟩ := mem_ready.1 hi
          have hci := List.all_eq_true.1 hc i (List.mem_range.2 hil)
          simp only [Bool.or_eq_true, decide_eq_true_eq] at hci
          rcases hci with hci | hci
          · omega
          · obtain ⟨o', ho', e, he, hb, hon⟩ := Region.waitsFor_spec hci
            have : o' = oi := Option.some.inj (ho'.symm.trans hoi)
            subst this
            have h2 := hall e he hb
            rw [hon, getD_both (hu (i - 1) (by omega) (by omega))] at h2
            cases h2
      subst hit
      have ih := fun a w => wpAny_tail hlow hc l (i + 1) g (listed.setIfInBounds i true) a w (fun j => by have := hl (j + 1); simpa [Nat.add_assoc, Nat.add_comm 1 j] using this) (by omega) (by simp at hg; omega) (by simp [hsz])
        (fun j hj => by
          by_cases hji : j = i
          · subst hji; simp [show j < listed.size by omega]
          · rw [getD_set_ne false (Ne.symm hji)]; exact hd j (by omega))
        (fun j hj hj' => by rw [getD_set_ne true (by omega)]; exact hu j (by omega) hj')
      have e : wpOp P ops Q i (wpList P ops Q l) a w := by
        have h' := h
        unfold wpList at h'
        unfold wpOp
        rw [h0]
        exact h'
      exact wpOp_mono ih e

theorem yielded_pre {n : Nat} {ops' : Array Oper} (hpre : ∀ j, j < n → ops'[j]? = ops[j]?) (tmps : Array Value) {j : Nat} (hj : j < n) : yielded ops' tmps j = yielded ops tmps j := by
  unfold yielded
  rw [hpre j hj]

theorem wanted_pre {n : Nat} {ops' : Array Oper} (hpre : ∀ j, j < n → ops'[j]? = ops[j]?) (hgd : guardB ops n = true) {i : Nat} (hi : i < n) {o : Oper} (ho : ops[i]? = some o) (tmps : Array Value) :
    Region.wanted o (yielded ops' tmps) = Region.wanted o (yielded ops tmps) := by
  have h1 := List.all_eq_true.1 hgd i (List.mem_range.2 hi)
  rw [ho] at h1
  unfold Region.wanted
  cases hg : o.guard with
  | none => rfl
  | some x =>
    obtain ⟨j, want⟩ := x
    dsimp only at h1
    rw [hg] at h1
    dsimp only at h1 ⊢
    rw [yielded_pre hpre tmps (of_decide_eq_true h1)]

/-- The head, in whatever order; then the tail. -/
theorem wpAny_head {C : World → Prop} {n : Nat} {ops' : Array Oper} {L : Act → Prop} {l : List Oper} (hn : n < ops.size) (hn' : ops'.size = n) (hpre : ∀ j, j < n → ops'[j]? = ops[j]?)
    (hlow : lowerB ops = true) (hgd : guardB ops n = true) (hs : Region.sinkB md ops n = true) (hc : Region.chainB md ops n = true)
    (hl : ∀ j, l[j]? = ops[n + j]?) (hL : ∀ a w, C w → L a → wpList P ops Q l a w) :
    ∀ (f : Nat) (listed listed' : Array Bool) (a : Act) (w : World), C w → HeadInv md ops n listed → listed'.size = n → (∀ j, j < n → listed.getD j true = listed'.getD j true) → (∀ j, j < n → listed.getD j false = listed'.getD j false) →
      wpAnyQ P md ops' C L f listed' a → wpAny P md ops Q (f + l.length) listed a w := by
  intro f
  induction f with
  | zero =>
    intro listed listed' a w hw inv hsz' ht hf h
    have hlow' : lowerB ops' = true := by
      refine List.all_eq_true.2 (fun i hi => ?_)
      have hi := List.mem_range.1 hi
      have := List.all_eq_true.1 hlow i (List.mem_range.2 (by omega))
      rw [hpre i (by omega)]; exact this
    have hall := all_listed (ops := ops') (listed := listed') hlow' (n := n) (by omega) (fun i _ => by rw [h.1]; exact List.not_mem_nil) (by omega)
    exact wpAny_tail hlow hc l n _ listed a w hl (Nat.le_refl _) (by omega) inv.size
      (fun j hj => by
        rw [hf j hj]
        have := hall j hj
        have hjs : j < listed'.size := by omega
        simp [hjs] at this ⊢; exact this) inv.tail (hL a w hw h.2)
  | succ f ih =>
    intro listed listed' a w hw inv hsz' ht hf h
    have hlow' : lowerB ops' = true := by
      refine List.all_eq_true.2 (fun i hi => ?_)
      have hi := List.mem_range.1 hi
      have := List.all_eq_true.1 hlow i (List.mem_range.2 (by omega))
      rw [hpre i (by omega)]; exact this
    by_cases hr : Region.ready md ops' listed' = []
    · have hall := all_listed (ops := ops') (listed := listed') hlow' (n := n) (by omega) (fun i _ => by rw [hr]; exact List.not_mem_nil) (by omega)
      exact wpAny_tail hlow hc l n _ listed a w hl (Nat.le_refl _) (by omega) inv.size
        (fun j hj => by
          rw [hf j hj]
          have := hall j hj
          have hjs : j < listed'.size := by omega
          simp [hjs] at this ⊢; exact this) inv.tail (hL a w hw (h.1 hr))
    · obtain ⟨i0, hi0⟩ := List.exists_mem_of_ne_nil _ hr
      have to : ∀ i, i ∈ Region.ready md ops' listed' → i ∈ Region.ready md ops listed := by
        intro i hi
        have hin : i < n := by have := mem_ready_lt hi; omega
        obtain ⟨h1, o, ho, h2⟩ := mem_ready.1 hi
        rw [hpre i hin] at ho
        refine mem_ready.2 ⟨by rw [ht i hin]; exact h1, o, ho, fun e he hb => ?_⟩
        have := lower_spec hlow ho e he
        rw [hf e.on (by omega)]
        exact h2 e he hb
      have back : ∀ i, i < n → i ∈ Region.ready md ops listed → i ∈ Region.ready md ops' listed' := by
        intro i hin hi
        obtain ⟨h1, o, ho, h2⟩ := mem_ready.1 hi
        refine mem_ready.2 ⟨by rw [← ht i hin]; exact h1, o, by rw [hpre i hin]; exact ho, fun e he hb => ?_⟩
        have := lower_spec hlow ho e he
        rw [← hf e.on (by omega)]
        exact h2 e he hb
      have hi0n : i0 < n := by have := mem_ready_lt hi0; omega
      have hun : listed.getD i0 true = false := by rw [ht i0 hi0n]; exact (mem_ready.1 hi0).1
      rw [show f + 1 + l.length = (f + l.length) + 1 by omega]
      refine ⟨fun h0 => absurd (to i0 hi0) (by rw [h0]; exact List.not_mem_nil), fun i hi => ?_⟩
      have hin : i < n := by
        rcases Nat.lt_or_ge i n with h' | h'
        · exact h'
        · exact absurd hi (tail_waits hs hc hn inv _ i0 rfl hi0n hun i h')
      have hi' := back i hin hi
      have hq := h.2 i hi'
      have hq2 : qOp P ops C i (wpAnyQ P md ops' C L f (listed'.setIfInBounds i true)) a := by
        have ho : ops[i]? = some (ops[i]'(by omega)) := Array.getElem?_eq_getElem (by omega)
        unfold qOp at hq ⊢
        rw [hpre i hin, ho] at hq
        rw [ho]
        dsimp only at hq ⊢
        rw [wanted_pre hpre hgd hin ho] at hq
        exact hq
      refine wpOp_of_qOp hw (fun a' w' hw' h' => ?_) hq2
      refine ih (listed.setIfInBounds i true) (listed'.setIfInBounds i true) a' w' hw' (inv.set hi hin) (by simp [hsz']) (fun j hj => ?_) (fun j hj => ?_) h'
      · by_cases hji : j = i
        · subst hji
          have h1 : j < listed.size := by rw [inv.size]; omega
          simp [h1, show j < listed'.size by omega]
        · rw [getD_set_ne true (Ne.symm hji), getD_set_ne true (Ne.symm hji)]; exact ht j hj
      · by_cases hji : j = i
        · subst hji
          have h1 : j < listed.size := by rw [inv.size]; omega
          simp [h1, show j < listed'.size by omega]
        · rw [getD_set_ne false (Ne.symm hji), getD_set_ne false (Ne.symm hji)]; exact hf j hj

/-- **The region**: the first n walked once, in the class C; the rest one behind the other, in whatever world of the class. -/
theorem wp_region_tail {C : World → Prop} {id n : Nat} {a : Act} {w : World} {l : List Oper} (hm : P.follows .mixedOrders = true) (hB : okB .any l n = true) (hC : C { w with drawn := w.drawn + 1 })
    (h : wpQuiet P (l.take n).toArray C (fun a' => ∀ w', C w' → wpList P l.toArray Q (l.drop n) a' w') (l.take n) a) : (Code.region id l.toArray true).wp P Q a w := by
  simp only [okB, Bool.and_eq_true, decide_eq_true_eq] at hB
  obtain ⟨⟨⟨⟨⟨hlow, hgd⟩, hs⟩, hc⟩, hn⟩, hlex⟩ := hB
  simp only [Region.lexB, Bool.and_eq_true] at hlex
  have hpre : ∀ j, j < n → (l.take n).toArray[j]? = l.toArray[j]? := fun j hj => by simp [hj]
  have hq := wpAnyQ_lex (P := P) (C := C) (md := .any) hlex.1 (l.take n) 0 (Array.replicate (l.take n).length false) a (by simp) (by simpa using hlex.2) h
  refine wp_region_any hm ?_
  have hlen : (l.take n).length = n := by simp; omega
  have := wpAny_head (P := P) (md := .any) (Q := Q) (C := C) (n := n) (ops := l.toArray) (ops' := (l.take n).toArray) (l := l.drop n) (by simpa using hn) (by simp; omega) hpre hlow hgd hs hc (fun j => by simp [List.getElem?_drop])
    (fun a w hw hL => hL w hw) (l.take n).length (Array.replicate l.toArray.size false) (Array.replicate (l.take n).length false) a _ hC
    ⟨by simp, fun j oj hj hl => (by rw [getD_replicate_false] at hl; cases hl), fun t ht ht' => by simp at ht' ⊢; simp [ht']⟩ (by simp; omega)
    (fun j hj => by have h1 : j < l.toArray.size := by simp; omega
                    have h2 : j < (l.take n).length := by omega
                    simp only [Array.getD, Array.size_replicate, h1, h2, dif_pos, Array.getInternal_eq_getElem, Array.getElem_replicate]) (fun j hj => by rw [getD_replicate_false, getD_replicate_false]) hq
  have e : (l.take n).length + (l.drop n).length = l.toArray.size := by simp; omega
  rw [e] at this
  exact this
end
end Tail
end Go.Proofs.Ytogajmbkjojdhaa
