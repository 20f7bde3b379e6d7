/- A region that draws its order, by an invariant: each operation is shown once, whatever has come before it. Of no program. -/
import Derived.Test.YtogajmbkjojdhaaUpd
set_option linter.unusedVariables false
namespace Go.Proofs.Ytogajmbkjojdhaa
open Go.RowKit

theorem wpAny_inv {P : Program} {md : Region.Mode} {ops : Array Oper} {Q : Exit → Act → World → Prop} {I : Nat → Array Bool → Act → World → Prop}
    (h0 : ∀ listed a w, I 0 listed a w → Region.ready md ops listed = [])
    (hq : ∀ f listed a w, I f listed a w → Region.ready md ops listed = [] → Q .normal a w)
    (hs : ∀ f listed a w, I (f + 1) listed a w → ∀ i ∈ Region.ready md ops listed, wpOp P ops Q i (I f (listed.setIfInBounds i true)) a w) :
    ∀ f listed a w, I f listed a w → wpAny P md ops Q f listed a w
  | 0, listed, a, w, h => ⟨h0 listed a w h, hq 0 listed a w h (h0 listed a w h)⟩
  | f + 1, listed, a, w, h => ⟨fun hr => hq (f + 1) listed a w h hr, fun i hi => wpOp_mono (fun a' w' h' => wpAny_inv h0 hq hs f _ a' w' h') (hs f listed a w h i hi)⟩

theorem wp_region_inv {P : Program} {id : Nat} {Q : Exit → Act → World → Prop} {a : Act} {w : World} {ops : Array Oper} (I : Nat → Array Bool → Act → World → Prop) (hm : P.follows .mixedOrders = true)
    (h0 : ∀ listed a w, I 0 listed a w → Region.ready .any ops listed = [])
    (hq : ∀ f listed a w, I f listed a w → Region.ready .any ops listed = [] → Q .normal a w)
    (hs : ∀ f listed a w, I (f + 1) listed a w → ∀ i ∈ Region.ready .any ops listed, wpOp P ops Q i (I f (listed.setIfInBounds i true)) a w)
    (hi : I ops.size (Array.replicate ops.size false) a w.drew) : (Code.region id ops true).wp P Q a w :=
  wp_region_any hm (wpAny_inv h0 hq hs _ _ _ _ hi)

/-- An operation that is carried out, by the walk's own form. -/
theorem wpOp_of {P : Program} {ops : Array Oper} {Q : Exit → Act → World → Prop} {i : Nat} {K : Act → World → Prop} {a : Act} {w : World} {o : Oper} (ho : ops[i]? = some o) (hg : o.guard = none) (h : o.wp P a w K Q) : wpOp P ops Q i K a w := by
  unfold wpOp
  rw [ho]
  dsimp only
  rw [if_pos (by simp [Region.wanted, hg])]
  exact .inl h

end Go.Proofs.Ytogajmbkjojdhaa
