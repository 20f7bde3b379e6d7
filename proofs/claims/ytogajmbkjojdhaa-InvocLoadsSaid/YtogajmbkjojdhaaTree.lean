/- A region whose order is open, in which two operations that change the world may come either way about: a tree of stages. Of no program. -/
import Derived.Test.YtogajmbkjojdhaaMix
set_option linter.unusedVariables false
namespace Go.Proofs.Ytogajmbkjojdhaa
namespace Mix
open Go Go.RowKit

inductive Pl where
  | fin (ps : List Nat)
  | op (ps : List Nat) (c : Nat) (r : Pl)
  | two (ps : List Nat) (c1 : Nat) (r1 : Pl) (c2 : Nat) (r2 : Pl)

section
variable {P : Program} {md : Region.Mode}

def preB (md : Region.Mode) (ops : Array Oper) : List Nat → Array Bool → Option (Array Bool)
  | [], listed => some listed
  | i :: r, listed => if (Region.ready md ops listed).contains i && Region.free md ops listed i && (match ops[i]? with | some o => pureK o.op | none => false) then preB md ops r (listed.setIfInBounds i true) else none

def plB (md : Region.Mode) (ops : Array Oper) : Pl → Array Bool → Bool
  | .fin ps, listed => match preB md ops ps listed with | some l => (Region.ready md ops l).isEmpty | none => false
  | .op ps c r, listed => match preB md ops ps listed with | some l => decide (Region.ready md ops l = [c]) && plB md ops r (l.setIfInBounds c true) | none => false
  | .two ps c1 r1 c2 r2, listed => match preB md ops ps listed with | some l => decide (Region.ready md ops l = [c1, c2]) && plB md ops r1 (l.setIfInBounds c1 true) && plB md ops r2 (l.setIfInBounds c2 true) | none => false

def Pl.sz : Pl → Nat
  | .fin ps => ps.length
  | .op ps _ r => ps.length + (r.sz + 1)
  | .two ps _ r1 _ _ => ps.length + (r1.sz + 1)
def Pl.even : Pl → Bool
  | .fin _ => true
  | .op _ _ r => r.even
  | .two _ _ r1 _ r2 => r1.even && r2.even && decide (r1.sz = r2.sz)

def Tree (P : Program) (l : List Oper) (Q : Act → World → Prop) : Pl → (World → Prop) → Act → World → Prop
  | .fin ps, S, a, w => wpQuiet P l.toArray S (fun a' => Q a' w) (pickL l ps) a
  | .op ps c r, S, a, w => wpQuiet P l.toArray S (fun a' => wpList P l.toArray (OnlyN (Onward S (Tree P l Q r))) (pickL l [c]) a' w) (pickL l ps) a
  | .two ps c1 r1 c2 r2, S, a, w => wpQuiet P l.toArray S (fun a' => wpList P l.toArray (OnlyN (Onward S (Tree P l Q r1))) (pickL l [c1]) a' w ∧ wpList P l.toArray (OnlyN (Onward S (Tree P l Q r2))) (pickL l [c2]) a' w) (pickL l ps) a

theorem pre_sound {l : List Oper} {Q : Act → World → Prop} (hs : Region.noSelect l.toArray = true) {S : World → Prop} {n : Nat} {w : World} {N : Act → Prop} (hS : S w) : ∀ (ps : List Nat) (listed listed' : Array Bool) (a : Act), preB md l.toArray ps listed = some listed' →
    wpQuiet P l.toArray S N (pickL l ps) a → (∀ a', N a' → wpAnyH P md l.toArray (OnlyN Q) S n listed' a' w) → wpAnyH P md l.toArray (OnlyN Q) S (ps.length + n) listed a w
  | [], listed, listed', a, hp, h, hN => by
    simp only [preB, Option.some.injEq] at hp
    subst hp
    simpa using hN a h
  | i :: ps, listed, listed', a, hp, h, hN => by
    unfold preB at hp
    cases ho : l.toArray[i]? with
    | none => rw [ho] at hp; simp at hp
    | some o =>
      rw [ho] at hp
      dsimp only at hp
      by_cases hc : ((Region.ready md l.toArray listed).contains i && Region.free md l.toArray listed i && pureK o.op) = true
      · rw [if_pos hc] at hp
        simp only [Bool.and_eq_true] at hc
        obtain ⟨⟨h1, h2⟩, h3⟩ := hc
        have ho' : l[i]? = some o := by simpa using ho
        unfold pickL at h
        rw [ho'] at h
        dsimp only at h
        unfold wpQuiet at h
        have hlen : (i :: ps).length + n = (ps.length + n) + 1 := by simp; omega
        rw [hlen]
        by_cases hw : Region.wanted o (yielded l.toArray a.tmps) = true
        · rw [if_pos hw] at h
          obtain ⟨v, hv, hk⟩ := h
          exact wpAnyH_take ho hs h2 h1 (fun _ _ _ h => h) (.inl ⟨hw, fun w' hw' => pure_value h3 (hv w' hw')⟩) hS (pre_sound hs hS ps _ listed' _ hp hk hN)
        · rw [if_neg hw] at h
          exact wpAnyH_take ho hs h2 h1 (fun _ _ _ h => h) (.inr ⟨by simpa using hw, rfl⟩) hS (pre_sound hs hS ps _ listed' _ hp h hN)
      · rw [if_neg hc] at hp
        cases hp

theorem tree_sound {l : List Oper} {Q : Act → World → Prop} (hs : Region.noSelect l.toArray = true) : ∀ (pl : Pl) (listed : Array Bool) (S : World → Prop) (a : Act) (w : World), pl.even = true → plB md l.toArray pl listed = true → S w → Tree P l Q pl S a w →
    wpAnyH P md l.toArray (OnlyN Q) S pl.sz listed a w
  | .fin ps, listed, S, a, w, he, hB, hS, h => by
    unfold plB at hB
    split at hB
    case h_2 => cases hB
    case h_1 l' hl' =>
      exact pre_sound (n := 0) hs hS ps listed l' a hl' h (fun a' ha => ⟨List.isEmpty_iff.1 hB, ha⟩)
  | .op ps c r, listed, S, a, w, he, hB, hS, h => by
    unfold plB at hB
    split at hB
    case h_2 => cases hB
    case h_1 l' hl' =>
      simp only [Bool.and_eq_true, decide_eq_true_eq] at hB
      refine pre_sound hs hS ps listed l' a hl' h (fun a' ha => ?_)
      refine wpAnyH_all hB.1 (by simp) (fun j hj => ?_)
      obtain rfl := List.mem_singleton.1 hj
      exact wpOp_mono (fun a' w' ⟨S', hc, hw', hK⟩ => ⟨hc _ hw', wpAnyH_class hc _ _ _ _ (tree_sound hs r _ S' a' w' he hB.2 hw' hK)⟩) (list_mix (Q := Q) (fun _ _ h => h) ha)
  | .two ps c1 r1 c2 r2, listed, S, a, w, he, hB, hS, h => by
    unfold plB at hB
    simp only [Pl.even, Bool.and_eq_true, decide_eq_true_eq] at he
    split at hB
    case h_2 => cases hB
    case h_1 l' hl' =>
      simp only [Bool.and_eq_true, decide_eq_true_eq] at hB
      refine pre_sound hs hS ps listed l' a hl' h (fun a' ha => ?_)
      refine wpAnyH_all hB.1.1 (by simp) (fun j hj => ?_)
      rcases List.mem_cons.1 hj with rfl | hj
      · exact wpOp_mono (fun a' w' ⟨S', hc, hw', hK⟩ => ⟨hc _ hw', wpAnyH_class hc _ _ _ _ (tree_sound hs r1 _ S' a' w' he.1.1 hB.1.2 hw' hK)⟩) (list_mix (Q := Q) (fun _ _ h => h) ha.1)
      · obtain rfl := List.mem_singleton.1 hj
        refine wpOp_mono (fun a' w' ⟨S', hc, hw', hK⟩ => ⟨hc _ hw', wpAnyH_class hc _ _ _ _ ?_⟩) (list_mix (Q := Q) (fun _ _ h => h) ha.2)
        have := tree_sound hs r2 (l'.setIfInBounds j true) S' a' w' he.1.2 hB.2 hw' hK
        rw [← he.2] at this
        exact this

def okPl (l : List Oper) (pl : Pl) : Bool :=
  Region.noSelect l.toArray && plB .any l.toArray pl (Array.replicate l.toArray.size false) && decide (pl.sz = l.length) && pl.even
/-- **The region.** -/
theorem wp_region_tree {id : Nat} {Q : Exit → Act → World → Prop} {a : Act} {w : World} {l : List Oper} (pl : Pl) (S : World → Prop) (hm : P.follows .mixedOrders = true) (hB : okPl l pl = true) (hS : S w.drew)
    (h : Tree P l (fun a' w' => Q .normal a' w') pl S a w.drew) : (Code.region id l.toArray true).wp P Q a w := by
  simp only [okPl, Bool.and_eq_true, decide_eq_true_eq] at hB
  obtain ⟨⟨⟨hs, hp⟩, hl⟩, he⟩ := hB
  refine Code.wp_mono (Q := OnlyN (fun a' w' => Q .normal a' w')) (fun e a w h => ?_) (wp_region_held (S := S) hm ?_)
  · cases e <;> first | exact h | exact (h : False).elim
  · have := tree_sound (P := P) (md := .any) hs pl _ S a w.drew he hp hS h
    rw [hl] at this
    exact this
theorem tree_fin {l : List Oper} {Q : Act → World → Prop} {ps : List Nat} {S : World → Prop} {a : Act} {w : World} (h : wpQuiet P l.toArray S (fun a' => Q a' w) (pickL l ps) a) : Tree P l Q (.fin ps) S a w := h
theorem tree_op {l : List Oper} {Q : Act → World → Prop} {ps : List Nat} {c : Nat} {r : Pl} {S : World → Prop} {a : Act} {w : World}
    (h : wpQuiet P l.toArray S (fun a' => wpList P l.toArray (OnlyN (Onward S (Tree P l Q r))) (pickL l [c]) a' w) (pickL l ps) a) : Tree P l Q (.op ps c r) S a w := h
theorem tree_two {l : List Oper} {Q : Act → World → Prop} {ps : List Nat} {c1 c2 : Nat} {r1 r2 : Pl} {S : World → Prop} {a : Act} {w : World}
    (h : wpQuiet P l.toArray S (fun a' => wpList P l.toArray (OnlyN (Onward S (Tree P l Q r1))) (pickL l [c1]) a' w ∧ wpList P l.toArray (OnlyN (Onward S (Tree P l Q r2))) (pickL l [c2]) a' w) (pickL l ps) a) : Tree P l Q (.two ps c1 r1 c2 r2) S a w := h
end
end Mix
end Go.Proofs.Ytogajmbkjojdhaa
