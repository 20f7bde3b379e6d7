/- In a round of a range over a function: a region walked as everywhere. Of no program. -/
import Derived.RangeFuncCalls
import Derived.RangeFuncLeaves
import Derived.TacticsIn
import Derived.OrdersIn
import Derived.Test.YtogajmbkjojdhaaMix
set_option linter.unusedVariables false
namespace Go.Proofs.Ytogajmbkjojdhaa
namespace Mix
open Go Go.RowKit

def noDefer (ops : List Oper) : Bool := ops.all fun o => match o.op with | .defer _ => false | _ => true
theorem noDefer_at {l : List Oper} (h : noDefer l = true) {i : Nat} {o : Oper} (ho : l[i]? = some o) : ∀ c, o.op ≠ .defer c := by
  intro c e
  have := List.all_eq_true.1 h o (List.mem_of_getElem? ho)
  rw [e] at this
  cases this
theorem wpIn_of_onlyN {r n : Nat} {P : Program} {o : Oper} {a : Act} {w : World} {R : Act → World → Prop} {K K' : Act → World → Prop} {Q : Exit → Act → World → Prop} (hd : ∀ c, o.op ≠ .defer c) (hK : ∀ a w, K a w → K' a w) (h : o.wp P a w K (OnlyN R)) :
    o.wpIn (Fence.wide.inRound r) n P a w K' Q := by
  refine ⟨fun _ _ => trivial, ?_⟩
  show o.uponIn (Fence.wide.inRound r) n P a K' Q ((o.semAt (some r) a.eval).run P w)
  rw [Oper.semAt_some r a.eval o hd]
  unfold Oper.wp at h
  generalize (execOp a.eval o).run P w = res at *
  cases res with
  | ok m w' =>
    cases m <;> simp only [Oper.upon] at h <;> simp only [Oper.uponIn]
    case value => exact hK _ _ h
    case skip => exact hK _ _ h
    case defer => exact hK _ _ h
    case enter f args =>
      refine ⟨fun hh => (by simp [Fence.wide] at hh), ?_⟩
      refine CallsIn.inRound r (callsIn_wide.2 (Calls.mono h fun e w'' he => ?_))
      cases e with
      | returned u => exact hK _ _ he
      | panicked c => exact (he : False).elim
      | outgrown => exact absurd he onlyN_not
    case row rw args =>
      refine ⟨fun hh => (by simp [Fence.wide] at hh), fun c cs _ => ?_⟩
      obtain ⟨v, w1, hr, hs⟩ := h c cs
      exact ⟨v, w1, hK _ _ hr, stepsIn_wide.2 hs⟩
  | halt x w' =>
    cases x <;> simp only [Oper.upon] at h
    case panic => exact (h : False).elim

theorem wpOpsIn_of_onlyN {r n : Nat} {P : Program} {l : List Oper} {R : Act → World → Prop} {Q : Exit → Act → World → Prop} (hd : noDefer l = true) (hQ : ∀ a w, R a w → Q .normal a w) :
    ∀ (is : List Nat) (a : Act) (w : World), wpOps P l.toArray (OnlyN R) is a w → wpOpsIn (Fence.wide.inRound r) n P l.toArray Q is a w
  | [], a, w, h => hQ a w h
  | i :: is, a, w, h => by
    unfold wpOps at h
    unfold wpOpsIn
    cases ho : l[i]? with
    | none =>
      have ho' : l.toArray[i]? = none := by simpa using ho
      rw [ho'] at h ⊢
      exact wpOpsIn_of_onlyN hd hQ is a w h
    | some o =>
      have ho' : l.toArray[i]? = some o := by simpa using ho
      rw [ho'] at h ⊢
      dsimp only at h ⊢
      by_cases hw : Region.wanted o (yielded l.toArray a.tmps) = true
      · rw [if_pos hw] at h ⊢
        rcases h with h | h
        · exact wpIn_of_onlyN (noDefer_at hd ho) (fun a w h => wpOpsIn_of_onlyN hd hQ is a w h) h
        · exact absurd h.2 onlyN_not
      · rw [if_neg hw] at h ⊢
        exact ⟨fun _ _ => trivial, wpOpsIn_of_onlyN hd hQ is _ w h⟩

/-- A region in order, in a round. -/
theorem wpIn_region_round {r n : Nat} {P : Program} {id : Nat} {Q : Exit → Act → World → Prop} {a : Act} {w : World} {l : List Oper} (hd : noDefer l = true)
    (h : wpList P l.toArray (OnlyN (fun a' w' => Q .normal a' w')) l a w) : (Code.region id l.toArray false).wpIn (Fence.wide.inRound r) n P Q a w := by
  refine wpIn_region (wpOpsIn_of_onlyN hd (fun a w h => h) _ _ _ ?_)
  rw [List.range_eq_range', show l.toArray.size = l.length from by simp, wpOps_eq_wpList l 0 (by simp)]
  exact h
/-- A region that draws its order, in a round. -/
theorem wpIn_region_mix {r n : Nat} {P : Program} {id : Nat} {Q : Exit → Act → World → Prop} {a : Act} {w : World} {l : List Oper} (st : List (List Nat × Nat)) (fin : List Nat) (S : World → Prop) (hm : P.follows .mixedOrders = true) (hd : noDefer l = true) (hB : okB l st fin = true) (hS : S w.drew)
    (h : Stages P l (fun a' w' => Q .normal a' w') st fin S a w.drew) : (Code.region id l.toArray true).wpIn (Fence.wide.inRound r) n P Q a w := by
  simp only [okB, Bool.and_eq_true, decide_eq_true_eq] at hB
  obtain ⟨⟨⟨⟨hs, hp⟩, hl⟩, h1⟩, h2⟩ := hB
  refine wpIn_region_draw fun t => ?_
  simp only [Region.schedule, hm, Bool.true_or, if_true]
  have := mix_sound (P := P) (md := .any) hs _ _ S a w.drew hp hS (stages_mix st fin h1 h2 S a w.drew h)
  rw [hl] at this
  refine wpOpsIn_of_onlyN hd (fun a w h => h) _ _ _ ?_
  have hz : l.toArray.size = l.length := by simp
  have h3 := wpAny_sound l.length t _ a w.drew (wpAny_of_held _ _ _ _ this)
  rw [← hz] at h3
  exact h3
end Mix
namespace Tail
theorem wpAny_of_tail {P : Program} {Q : Exit → Act → World → Prop} {C : World → Prop} {n : Nat} {a : Act} {w : World} {l : List Oper} (hB : okB .any l n = true) (hC : C { w with drawn := w.drawn + 1 })
    (h : wpQuiet P (l.take n).toArray C (fun a' => ∀ w', C w' → wpList P l.toArray Q (l.drop n) a' w') (l.take n) a) : wpAny P .any l.toArray Q l.toArray.size (Array.replicate l.toArray.size false) a { w with drawn := w.drawn + 1 } := by
  simp only [okB, Bool.and_eq_true, decide_eq_true_eq] at hB
  obtain ⟨⟨⟨⟨⟨hlow, hgd⟩, hs⟩, hc⟩, hn⟩, hlex⟩ := hB
  simp only [Region.lexB, Bool.and_eq_true] at hlex
  have hpre : ∀ j, j < n → (l.take n).toArray[j]? = l.toArray[j]? := fun j hj => by simp [hj]
  have hq := wpAnyQ_lex (P := P) (C := C) (md := .any) hlex.1 (l.take n) 0 (Array.replicate (l.take n).length false) a (by simp) (by simpa using hlex.2) h
  have hlen : (l.take n).length = n := by simp; omega
  have := wpAny_head (P := P) (md := .any) (Q := Q) (C := C) (n := n) (ops := l.toArray) (ops' := (l.take n).toArray) (l := l.drop n) (by simpa using hn) (by simp; omega) hpre hlow hgd hs hc (fun j => by simp [List.getElem?_drop])
    (fun a w hw hL => hL w hw) (l.take n).length (Array.replicate l.toArray.size false) (Array.replicate (l.take n).length false) a _ hC
    ⟨by simp, fun j oj hj hl => (by rw [getD_replicate_false] at hl; cases hl), fun t ht ht' => by simp at ht' ⊢; simp [ht']⟩ (by simp; omega)
    (fun j hj => by have h1 : j < l.toArray.size := by simp; omega
                    have h2 : j < (l.take n).length := by omega
                    simp only [Array.getD, Array.size_replicate, h1, h2, dif_pos, Array.getInternal_eq_getElem, Array.getElem_replicate]) (fun j hj => by rw [getD_replicate_false, getD_replicate_false]) hq
  have e : (l.take n).length + (l.drop n).length = l.toArray.size := by simp; omega
  rw [e] at this
  exact this
end Tail
namespace Mix
open Go Go.RowKit
/-- A region that draws its order, its first n operations alone out of order, in a round. -/
theorem wpIn_region_later_tail {r m : Nat} {P : Program} {id : Nat} (n : Nat) {Q : Exit → Act → World → Prop} {a : Act} {w W : World} {l : List Oper} (hm : P.follows .mixedOrders = true) (hd : noDefer l = true) (hB : Tail.okB .any l n = true)
    (hW : Below W.heap.size W w)
    (h : wpQuiet P (l.take n).toArray (fun w' => ∃ x : Later W, w' = x.w) (fun a' => ∀ x : Later W, wpList P l.toArray (OnlyN (fun a' w' => Q .normal a' w')) (l.drop n) a' x.w) (l.take n) a) : (Code.region id l.toArray true).wpIn (Fence.wide.inRound r) m P Q a w := by
  refine wpIn_region_draw fun t => ?_
  simp only [Region.schedule, hm, Bool.true_or, if_true]
  refine wpOpsIn_of_onlyN hd (fun a w h => h) _ _ _ ?_
  have e : (fun a' => ∀ w', (∃ x : Later W, w' = x.w) → wpList P l.toArray (OnlyN (fun a' w' => Q .normal a' w')) (l.drop n) a' w') = (fun a' => ∀ x : Later W, wpList P l.toArray (OnlyN (fun a' w' => Q .normal a' w')) (l.drop n) a' x.w) := by
    funext a'
    apply propext
    exact ⟨fun h x => h _ ⟨x, rfl⟩, fun h w' ⟨x, hx⟩ => hx ▸ h x⟩
  rw [← e] at h
  exact wpAny_sound l.toArray.size t _ a _ (Tail.wpAny_of_tail (w := w) hB ⟨⟨w.drew, hW.drew⟩, rfl⟩ h)
end Mix
namespace Tail
open Go
theorem wpOp_pre {P : Program} {ops ops' : Array Oper} {Q R K K' : Act → World → Prop} {i : Nat} {a : Act} {w : World} (hp : ops'[i]? = ops[i]?) (hw : ∀ o, ops[i]? = some o → ∀ t, Region.wanted o (yielded ops' t) = Region.wanted o (yielded ops t)) (hK : ∀ a w, K a w → K' a w)
    (h : wpOp P ops' (Mix.OnlyN R) i K a w) : wpOp P ops (Mix.OnlyN Q) i K' a w := by
  unfold wpOp at h ⊢
  rw [hp] at h
  cases ho : ops[i]? with
  | none => rw [ho] at h; exact hK _ _ h
  | some o =>
    rw [ho] at h
    dsimp only at h ⊢
    rw [hw o ho] at h
    by_cases hh : Region.wanted o (yielded ops a.tmps) = true
    · rw [if_pos hh] at h ⊢
      rcases h with h | h
      · exact .inl (Mix.wp_onlyN hK h)
      · exact absurd h.2 Mix.onlyN_not
    · rw [if_neg hh] at h ⊢
      exact hK _ _ h
/-- The head, in whatever order; then the tail. -/
theorem wpAny_headW {P : Program} {ops : Array Oper} {md : Region.Mode} {Q : Act → World → Prop} {n : Nat} {ops' : Array Oper} {L : Act → World → Prop} {l : List Oper} (hn : n < ops.size) (hn' : ops'.size = n) (hpre : ∀ j, j < n → ops'[j]? = ops[j]?)
    (hlow : lowerB ops = true) (hgd : guardB ops n = true) (hs : Region.sinkB md ops n = true) (hc : Region.chainB md ops n = true)
    (hl : ∀ j, l[j]? = ops[n + j]?) (hL : ∀ a w, L a w → wpList P ops (Mix.OnlyN Q) l a w) :
    ∀ (f : Nat) (listed listed' : Array Bool) (a : Act) (w : World), HeadInv md ops n listed → listed'.size = n → (∀ j, j < n → listed.getD j true = listed'.getD j true) → (∀ j, j < n → listed.getD j false = listed'.getD j false) →
      wpAny P md ops' (Mix.OnlyN L) f listed' a w → wpAny P md ops (Mix.OnlyN Q) (f + l.length) listed a w := by
  intro f
  induction f with
  | zero =>
    intro listed listed' a w inv hsz' ht hf h
    have hlow' : lowerB ops' = true := by
      refine List.all_eq_true.2 (fun i hi => ?_)
      have hi := List.mem_range.1 hi
      have := List.all_eq_true.1 hlow i (List.mem_range.2 (by omega))
      rw [hpre i (by omega)]; exact this
    have hall := all_listed (ops := ops') (listed := listed') hlow' (n := n) (by omega) (fun i _ => by rw [h.1]; exact List.not_mem_nil) (by omega)
    exact wpAny_tail hlow hc l n _ listed a w hl (Nat.le_refl _) (by omega) inv.size
      (fun j hj => by
        rw [hf j hj]
        have := hall j hj
        have hjs : j < listed'.size := by omega
        simp [hjs] at this ⊢; exact this) inv.tail (hL a w h.2)
  | succ f ih =>
    intro listed listed' a w inv hsz' ht hf h
    have hlow' : lowerB ops' = true := by
      refine List.all_eq_true.2 (fun i hi => ?_)
      have hi := List.mem_range.1 hi
      have := List.all_eq_true.1 hlow i (List.mem_range.2 (by omega))
      rw [hpre i (by omega)]; exact this
    by_cases hr : Region.ready md ops' listed' = []
    · have hall := all_listed (ops := ops') (listed := listed') hlow' (n := n) (by omega) (fun i _ => by rw [hr]; exact List.not_mem_nil) (by omega)
      exact wpAny_tail hlow hc l n _ listed a w hl (Nat.le_refl _) (by omega) inv.size
        (fun j hj => by
          rw [hf j hj]
          have := hall j hj
          have hjs : j < listed'.size := by omega
          simp [hjs] at this ⊢; exact this) inv.tail (hL a w (h.1 hr))
    · obtain ⟨i0, hi0⟩ := List.exists_mem_of_ne_nil _ hr
      have to : ∀ i, i ∈ Region.ready md ops' listed' → i ∈ Region.ready md ops listed := by
        intro i hi
        have hin : i < n := by have := mem_ready_lt hi; omega
        obtain ⟨h1, o, ho, h2⟩ := mem_ready.1 hi
        rw [hpre i hin] at ho
        refine mem_ready.2 ⟨by rw [ht i hin]; exact h1, o, ho, fun e he hb => ?_⟩
        have := lower_spec hlow ho e he
        rw [hf e.on (by omega)]
        exact h2 e he hb
      have back : ∀ i, i < n → i ∈ Region.ready md ops listed → i ∈ Region.ready md ops' listed' := by
        intro i hin hi
        obtain ⟨h1, o, ho, h2⟩ := mem_ready.1 hi
        refine mem_ready.2 ⟨by rw [← ht i hin]; exact h1, o, by rw [hpre i hin]; exact ho, fun e he hb => ?_⟩
        have := lower_spec hlow ho e he
        rw [← hf e.on (by omega)]
        exact h2 e he hb
      have hi0n : i0 < n := by have := mem_ready_lt hi0; omega
      have hun : listed.getD i0 true = false := by rw [ht i0 hi0n]; exact (mem_ready.1 hi0).1
      rw [show f + 1 + l.length = (f + l.length) + 1 by omega]
      refine ⟨fun h0 => absurd (to i0 hi0) (by rw [h0]; exact List.not_mem_nil), fun i hi => ?_⟩
      have hin : i < n := by
        rcases Nat.lt_or_ge i n with h' | h'
        · exact h'
        · exact absurd hi (tail_waits hs hc hn inv _ i0 rfl hi0n hun i h')
      have hi' := back i hin hi
      have hq := h.2 i hi'
      refine wpOp_pre (K := wpAny P md ops' (Mix.OnlyN L) f (listed'.setIfInBounds i true)) (hpre i hin) (fun o ho t => wanted_pre hpre hgd hin ho t) (fun a' w' h' => ?_) hq
      refine ih (listed.setIfInBounds i true) (listed'.setIfInBounds i true) a' w' (inv.set hi hin) (by simp [hsz']) (fun j hj => ?_) (fun j hj => ?_) h'
      · by_cases hji : j = i
        · subst hji
          have h1 : j < listed.size := by rw [inv.size]; omega
          simp [h1, show j < listed'.size by omega]
        · rw [getD_set_ne true (Ne.symm hji), getD_set_ne true (Ne.symm hji)]; exact ht j hj
      · by_cases hji : j = i
        · subst hji
          have h1 : j < listed.size := by rw [inv.size]; omega
          simp [h1, show j < listed'.size by omega]
        · rw [getD_set_ne false (Ne.symm hji), getD_set_ne false (Ne.symm hji)]; exact hf j hj


theorem replicate_getD_true (n m j : Nat) (hn : j < n) (hm : j < m) : (Array.replicate n false).getD j true = (Array.replicate m false).getD j true := by
  simp only [Array.getD, Array.size_replicate, hn, hm, dif_pos, Array.getInternal_eq_getElem, Array.getElem_replicate]
end Tail
namespace Mix
open Go Go.RowKit
def okT (l : List Oper) (n : Nat) (st : List (List Nat × Nat)) (fin : List Nat) : Bool :=
  okB (l.take n) st fin && Tail.lowerB l.toArray && Tail.guardB l.toArray n && Region.sinkB .any l.toArray n && Region.chainB .any l.toArray n && decide (n < l.length)
theorem any_mix_tail {P : Program} {Q : Act → World → Prop} {a : Act} {w : World} {l : List Oper} (n : Nat) (st : List (List Nat × Nat)) (fin : List Nat) (S : World → Prop) (hB : okT l n st fin = true) (hS : S w.drew)
    (h : Stages P (l.take n) (fun a' w' => wpList P l.toArray (OnlyN Q) (l.drop n) a' w') st fin S a w.drew) : wpAny P .any l.toArray (OnlyN Q) l.toArray.size (Array.replicate l.toArray.size false) a w.drew := by
  simp only [okT, Bool.and_eq_true, decide_eq_true_eq] at hB
  obtain ⟨⟨⟨⟨⟨hO, hlow⟩, hgd⟩, hs⟩, hc⟩, hn⟩ := hB
  simp only [okB, Bool.and_eq_true, decide_eq_true_eq] at hO
  obtain ⟨⟨⟨⟨hse, hp⟩, hl⟩, h1⟩, h2⟩ := hO
  have hm := mix_sound (P := P) (md := .any) hse _ _ S a w.drew hp hS (stages_mix st fin h1 h2 S a w.drew h)
  rw [hl] at hm
  have hA := wpAny_of_held _ _ _ _ hm
  have hpre : ∀ j, j < n → (l.take n).toArray[j]? = l.toArray[j]? := fun j hj => by simp [hj]
  have hlen : (l.take n).length = n := by simp; omega
  have hz : (l.take n).toArray.size = n := by simp; omega
  have := Tail.wpAny_headW (P := P) (md := .any) (Q := Q) (n := n) (ops := l.toArray) (ops' := (l.take n).toArray) (l := l.drop n) (by simpa using hn) hz hpre hlow hgd hs hc (fun j => by simp [List.getElem?_drop])
    (fun a w h => h) (l.take n).length (Array.replicate l.toArray.size false) (Array.replicate (l.take n).toArray.size false) a w.drew
    ⟨by simp, fun j oj hj hl => (by rw [getD_replicate_false] at hl; cases hl), fun t ht ht' => by simp at ht' ⊢; simp [ht']⟩ (by simp; omega)
    (fun j hj => Tail.replicate_getD_true _ _ _ (by simp; omega) (by rw [hz]; exact hj)) (fun j hj => by rw [getD_replicate_false, getD_replicate_false]) hA
  have e : (l.take n).length + (l.drop n).length = l.toArray.size := by simp; omega
  rw [e] at this
  exact this
/-- A region that draws its order: the first n by stages, then the others one behind the other (which may write what the first ones read). -/
theorem wp_region_mix_tail {P : Program} {id : Nat} {Q : Exit → Act → World → Prop} {a : Act} {w : World} {l : List Oper} (n : Nat) (st : List (List Nat × Nat)) (fin : List Nat) (S : World → Prop) (hm : P.follows .mixedOrders = true) (hB : okT l n st fin = true) (hS : S w.drew)
    (h : Stages P (l.take n) (fun a' w' => wpList P l.toArray (OnlyN (fun a' w' => Q .normal a' w')) (l.drop n) a' w') st fin S a w.drew) : (Code.region id l.toArray true).wp P Q a w := by
  refine Code.wp_mono (Q := OnlyN (fun a' w' => Q .normal a' w')) (fun e a w h => ?_) (wp_region_any hm (any_mix_tail n st fin S hB hS h))
  cases e <;> first | exact h | exact (h : False).elim
theorem wpIn_region_mix_tail {r m : Nat} {P : Program} {id : Nat} {Q : Exit → Act → World → Prop} {a : Act} {w : World} {l : List Oper} (n : Nat) (st : List (List Nat × Nat)) (fin : List Nat) (S : World → Prop) (hm : P.follows .mixedOrders = true) (hd : noDefer l = true) (hB : okT l n st fin = true) (hS : S w.drew)
    (h : Stages P (l.take n) (fun a' w' => wpList P l.toArray (OnlyN (fun a' w' => Q .normal a' w')) (l.drop n) a' w') st fin S a w.drew) : (Code.region id l.toArray true).wpIn (Fence.wide.inRound r) m P Q a w := by
  refine wpIn_region_draw fun t => ?_
  simp only [Region.schedule, hm, Bool.true_or, if_true]
  refine wpOpsIn_of_onlyN hd (fun a w h => h) _ _ _ ?_
  exact wpAny_sound l.toArray.size t _ a _ (any_mix_tail n st fin S hB hS h)
end Mix
end Go.Proofs.Ytogajmbkjojdhaa
