/- A region whose order is open, with operations that change the world, each of which waits for the one before it: what only reads is taken first, as early as may be; so there is one order. Of no program. -/
import Derived.Test.YtogajmbkjojdhaaUpd
import Derived.OrdersHeld
import Derived.Deep.RegionHeld3
set_option linter.unusedVariables false
namespace Go.Proofs.Ytogajmbkjojdhaa
namespace Mix
open Go Go.RowKit

/-- Operations that enter nothing. -/
def pureK : Op → Bool
  | .move _ => true
  | .assign _ => true
  | .pick _ _ _ => true
  | .load _ _ => true
  | .nilCheck _ => true
  | .binOp _ _ _ _ _ => true
  | .unOp _ _ _ => true
  | .convert _ _ _ => true
  | .fieldAddr _ _ _ => true
  | .field _ _ _ => true
  | .indexAddr _ _ _ => true
  | .index _ _ _ => true
  | .extract _ _ => true
  | .build _ _ => true
  | .lookup _ _ _ _ => true
  | .slice _ _ _ _ _ => true
  | .call c => match c.callee with | .builtin .len => true | _ => false
  | _ => false

theorem nilDeref_not {P : Program} {w w' : World} {n : Next} (h : (runtimePanic .nilDeref : Sem Next).run P w = .ok n w') : False := by
  unfold runtimePanic goPanic at h
  simp [Sem.run_bind, Sem.run] at h
theorem unsupported_not {P : Program} {w w' : World} {n : Unit} (u : Unsupported) (h : (unsupported u : Sem Unit).run P w = .ok n w') : False := by
  unfold unsupported at h
  simp [Sem.run] at h
theorem upon_ok {P : Program} {C : World → Prop} {w : World} {v : Value} {r : Result Next} (h : Oper.quietUpon P C w v r) (hv : ∀ n w', r = .ok n w' → ∃ u, n = .value u) : r = .ok (.value v) w := by
  cases r with
  | halt x w' => exact absurd h (by simp [Oper.quietUpon])
  | ok n w' =>
    obtain ⟨u, rfl⟩ := hv n w' rfl
    simp only [Oper.quietUpon] at h
    obtain ⟨rfl, rfl⟩ := h
    rfl
theorem then_ok {α : Type} {P : Program} {w w' : World} {n : Next} {s : Sem α} {f : α → Sem Next} (h : (s >>= f).run P w = .ok n w') (hf : ∀ x w1 w2 n, (f x).run P w1 = .ok n w2 → ∃ u, n = .value u) : ∃ u, n = .value u := by
  rw [Sem.run_bind] at h
  cases hs : s.run P w with
  | ok u w1 => rw [hs] at h; exact hf u w1 w' n h
  | halt x w1 => rw [hs] at h; cases h
theorem pure_ok {P : Program} {w w' : World} {n : Next} {u : Value} (h : (pure (Next.value u) : Sem Next).run P w = .ok n w') : ∃ u, n = .value u := by
  rw [Sem.run_pure] at h
  cases h
  exact ⟨_, rfl⟩
theorem pure_value {P : Program} {C : World → Prop} {w : World} {v : Value} {o : Oper} {a : Act} (hk : pureK o.op = true) (h : o.quietAt P a C w v) : (execOp a.eval o).run P w = .ok (.value v) w := by
  refine upon_ok h ?_
  unfold execOp
  clear h
  obtain ⟨d, op, ty, pos, aft, gd⟩ := o
  dsimp only at hk ⊢
  intro n w'
  cases op <;> simp only [pureK, Bool.false_eq_true] at hk <;> dsimp only <;> first | exact fun h => pure_ok h | exact fun h => then_ok h (fun _ _ _ _ h => pure_ok h) | skip
  case nilCheck x =>
    split
    · exact fun h => (nilDeref_not h).elim
    · exact fun h => (nilDeref_not h).elim
    · exact fun h => (nilDeref_not h).elim
    · split
      · exact fun h => (nilDeref_not h).elim
      · intro h
        refine then_ok h (fun p w1 w2 n h => then_ok h (fun q w1 w2 n h => ?_))
        split at h
        · exact then_ok h (fun _ _ _ _ h => pure_ok h)
        · exact pure_ok h
      · exact fun h => pure_ok h
    · exact fun h => pure_ok h
  case call c =>
    obtain ⟨callee, args, at'⟩ := c
    cases callee <;> simp only [Bool.false_eq_true] at hk
    rename_i b
    cases b <;> simp only [Bool.false_eq_true] at hk
    intro h
    refine then_ok (P := P) (s := Builtin.len_ at' ty (Array.map a.eval args)) (f := fun x => pure (Next.value x)) (n := n) (w := w) (w' := w') ?_ (fun _ _ _ _ h => pure_ok h)
    simpa only [resolve, Sem.run_bind, Sem.run_pure, Result.andThen, invoke, builtin] using h

/-- A post of which the normal way alone is let. -/
def OnlyN (R : Act → World → Prop) : Exit → Act → World → Prop := fun e a w => match e with | .normal => R a w | _ => False
theorem onlyN_not {R : Act → World → Prop} : ¬ LetsOut (OnlyN R) := fun ⟨_, _, h⟩ => h
theorem wp_onlyN {P : Program} {o : Oper} {a : Act} {w : World} {R R' : Act → World → Prop} {K K' : Act → World → Prop} (h : ∀ a w, K a w → K' a w) (hh : o.wp P a w K (OnlyN R)) : o.wp P a w K' (OnlyN R') := by
  unfold Oper.wp at *
  generalize (execOp a.eval o).run P w = r at *
  cases r with
  | ok n w' =>
    cases n <;> simp only [Oper.upon] at hh ⊢
    case value => exact h _ _ hh
    case skip => exact h _ _ hh
    case defer => exact h _ _ hh
    case enter f args =>
      refine Calls.mono hh fun e w'' he => ?_
      cases e with
      | returned u => exact h _ _ he
      | panicked c => exact (he : False).elim
      | outgrown => exact absurd he onlyN_not
    case row => exact Rows.mono hh fun u w'' he => h _ _ he
  | halt x w' =>
    cases x <;> simp only [Oper.upon] at hh ⊢
    case panic => exact (hh : False).elim

section
variable {P : Program} {ops : Array Oper} {md : Region.Mode}

def planB (md : Region.Mode) (ops : Array Oper) : List (Nat × Bool) → Array Bool → Bool
  | [], listed => (Region.ready md ops listed).isEmpty
  | (i, false) :: r, listed => (Region.ready md ops listed).contains i && Region.free md ops listed i && (match ops[i]? with | some o => pureK o.op | none => false) && planB md ops r (listed.setIfInBounds i true)
  | (i, true) :: r, listed => decide (Region.ready md ops listed = [i]) && planB md ops r (listed.setIfInBounds i true)

def wpMix (P : Program) (ops : Array Oper) (Q : Act → World → Prop) : List (Nat × Bool) → (World → Prop) → Act → World → Prop
  | [], _, a, w => Q a w
  | (i, false) :: r, S, a, w => ∀ o, ops[i]? = some o → ∃ v, YieldsIf P ops S o v a ∧ wpMix P ops Q r S (a.put o.dst v) w
  | (i, true) :: r, S, a, w => wpOp P ops (OnlyN Q) i (fun a' w' => ∃ S' : World → Prop, (∀ x, S' x → S x) ∧ S' w' ∧ wpMix P ops Q r S' a' w') a w

theorem wpAnyH_class {Q : Exit → Act → World → Prop} {S S' : World → Prop} (h : ∀ x, S' x → S x) : ∀ (f : Nat) (listed : Array Bool) (a : Act) (w : World), wpAnyH P md ops Q S' f listed a w → wpAnyH P md ops Q S f listed a w
  | 0, _, _, _, hh => hh
  | f + 1, _, _, _, hh => ⟨hh.1, fun i hi => wpOp_mono (fun a' w' h' => ⟨h _ h'.1, wpAnyH_class h f _ a' w' h'.2⟩) (hh.2 i hi)⟩

theorem mix_sound {Q : Act → World → Prop} (hs : Region.noSelect ops = true) : ∀ (plan : List (Nat × Bool)) (listed : Array Bool) (S : World → Prop) (a : Act) (w : World), planB md ops plan listed = true → S w → wpMix P ops Q plan S a w →
    wpAnyH P md ops (OnlyN Q) S plan.length listed a w
  | [], listed, S, a, w, hB, hS, h => by
    simp only [planB] at hB
    exact ⟨List.isEmpty_iff.1 hB, h⟩
  | (i, false) :: r, listed, S, a, w, hB, hS, h => by
    simp only [planB, Bool.and_eq_true] at hB
    obtain ⟨⟨⟨h1, h2⟩, h3⟩, h4⟩ := hB
    cases ho : ops[i]? with
    | none => rw [ho] at h3; cases h3
    | some o =>
      obtain ⟨v, hy, hK⟩ := h o ho
      exact wpAnyH_take ho hs h2 h1 (fun _ _ _ h => h) hy hS (mix_sound hs r _ S _ w h4 hS hK)
  | (i, true) :: r, listed, S, a, w, hB, hS, h => by
    simp only [planB, Bool.and_eq_true, decide_eq_true_eq] at hB
    obtain ⟨h1, h2⟩ := hB
    refine wpAnyH_all h1 (by simp) (fun j hj => ?_)
    obtain rfl := List.mem_singleton.1 hj
    exact wpOp_mono (fun a' w' ⟨S', hc, hw', hK⟩ => ⟨hc _ hw', wpAnyH_class hc _ _ _ _ (mix_sound hs r _ S' a' w' h2 hw' hK)⟩) h

/-! ### in the walk's own forms -/
def pickL (l : List Oper) : List Nat → List Oper
  | [] => []
  | i :: r => match l[i]? with
    | some o => o :: pickL l r
    | none => pickL l r

def flat : List (List Nat × Nat) → List Nat → List (Nat × Bool)
  | [], fin => fin.map (·, false)
  | (ps, c) :: r, fin => ps.map (·, false) ++ (c, true) :: flat r fin

/-- Behind a change of the world: the class of worlds anew, and the other stages. -/
def Onward (S : World → Prop) (N : (World → Prop) → Act → World → Prop) (a : Act) (w : World) : Prop := ∃ S' : World → Prop, (∀ x, S' x → S x) ∧ S' w ∧ N S' a w

def Stages (P : Program) (l : List Oper) (Q : Act → World → Prop) : List (List Nat × Nat) → List Nat → (World → Prop) → Act → World → Prop
  | [], fin, S, a, w => wpQuiet P l.toArray S (fun a' => Q a' w) (pickL l fin) a
  | (ps, c) :: r, fin, S, a, w => wpQuiet P l.toArray S (fun a' => wpList P l.toArray (OnlyN (Onward S (Stages P l Q r fin))) (pickL l [c]) a' w) (pickL l ps) a

def pureAll (l : List Oper) (is : List Nat) : Bool := is.all fun i => match l[i]? with | some o => pureK o.op | none => false

theorem quiet_mix {l : List Oper} {Q : Act → World → Prop} {S : World → Prop} {w : World} {r : List (Nat × Bool)} {N : Act → World → Prop} (hN : ∀ a, N a w → wpMix P l.toArray Q r S a w) : ∀ (ps : List Nat) (a : Act), pureAll l ps = true →
    wpQuiet P l.toArray S (fun a' => N a' w) (pickL l ps) a → wpMix P l.toArray Q (ps.map (·, false) ++ r) S a w
  | [], a, _, h => hN a h
  | i :: ps, a, hp, h => by
    simp only [pureAll, List.all_cons, Bool.and_eq_true] at hp
    obtain ⟨h1, h2⟩ := hp
    intro o ho
    have ho' : l[i]? = some o := by simpa using ho
    rw [ho'] at h1
    unfold pickL at h
    rw [ho'] at h
    dsimp only at h h1
    unfold wpQuiet at h
    by_cases hw : Region.wanted o (yielded l.toArray a.tmps) = true
    · rw [if_pos hw] at h
      obtain ⟨v, hv, hk⟩ := h
      exact ⟨v, .inl ⟨hw, fun w' hw' => pure_value h1 (hv w' hw')⟩, quiet_mix hN ps _ h2 hk⟩
    · rw [if_neg hw] at h
      exact ⟨undef, .inr ⟨by simpa using hw, rfl⟩, quiet_mix hN ps _ h2 h⟩

theorem list_mix {l : List Oper} {Q R : Act → World → Prop} {K : Act → World → Prop} (hK : ∀ a w, R a w → K a w) {c : Nat} {a : Act} {w : World} (h : wpList P l.toArray (OnlyN R) (pickL l [c]) a w) : wpOp P l.toArray (OnlyN Q) c K a w := by
  unfold wpOp
  cases ho : l[c]? with
  | none =>
    have ho' : l.toArray[c]? = none := by simpa using ho
    rw [ho']
    unfold pickL at h
    rw [ho] at h
    exact hK _ _ h
  | some o =>
    have ho' : l.toArray[c]? = some o := by simpa using ho
    rw [ho']
    unfold pickL at h
    rw [ho] at h
    dsimp only at h ⊢
    unfold wpList at h
    by_cases hw : Region.wanted o (yielded l.toArray a.tmps) = true
    · rw [if_pos hw] at h ⊢
      rcases h with h | h
      · exact .inl (wp_onlyN (fun a w h => hK _ _ h) h)
      · exact absurd h.2 onlyN_not
    · rw [if_neg hw] at h ⊢
      exact hK _ _ h

theorem stages_mix {l : List Oper} {Q : Act → World → Prop} : ∀ (st : List (List Nat × Nat)) (fin : List Nat), (st.all fun x => pureAll l x.1) = true → pureAll l fin = true → ∀ (S : World → Prop) (a : Act) (w : World), Stages P l Q st fin S a w → wpMix P l.toArray Q (flat st fin) S a w
  | [], fin, _, hf, S, a, w, h => by
    have := quiet_mix (r := []) (N := Q) (Q := Q) (fun a h => h) fin a hf h
    simpa [flat] using this
  | (ps, c) :: r, fin, hp, hf, S, a, w, h => by
    simp only [List.all_cons, Bool.and_eq_true] at hp
    refine quiet_mix (N := fun a' w => wpList P l.toArray (OnlyN (Onward S (Stages P l Q r fin))) (pickL l [c]) a' w) (fun a h => ?_) ps a hp.1 h
    exact list_mix (fun a w ⟨S', h1, h2, h3⟩ => ⟨S', h1, h2, stages_mix r fin hp.2 hf S' a w h3⟩) h

def okB (l : List Oper) (st : List (List Nat × Nat)) (fin : List Nat) : Bool :=
  Region.noSelect l.toArray && planB .any l.toArray (flat st fin) (Array.replicate l.toArray.size false) && decide ((flat st fin).length = l.length) && (st.all fun x => pureAll l x.1) && pureAll l fin

/-- **The region**: st: what only reads, then one operation that changes the world; fin: what only reads at last. -/
theorem wp_region_mix {id : Nat} {Q : Exit → Act → World → Prop} {a : Act} {w : World} {l : List Oper} (st : List (List Nat × Nat)) (fin : List Nat) (S : World → Prop) (hm : P.follows .mixedOrders = true) (hB : okB l st fin = true) (hS : S w.drew)
    (h : Stages P l (fun a' w' => Q .normal a' w') st fin S a w.drew) : (Code.region id l.toArray true).wp P Q a w := by
  simp only [okB, Bool.and_eq_true, decide_eq_true_eq] at hB
  obtain ⟨⟨⟨⟨hs, hp⟩, hl⟩, h1⟩, h2⟩ := hB
  refine Code.wp_mono (Q := OnlyN (fun a' w' => Q .normal a' w')) (fun e a w h => ?_) (wp_region_held (S := S) hm ?_)
  · cases e <;> first | exact h | exact (h : False).elim
  · have := mix_sound (P := P) (md := .any) hs _ _ S a w.drew hp hS (stages_mix st fin h1 h2 S a w.drew h)
    rw [hl] at this
    exact this
theorem stages_cons {l : List Oper} {Q : Act → World → Prop} {ps : List Nat} {c : Nat} {r : List (List Nat × Nat)} {fin : List Nat} {S : World → Prop} {a : Act} {w : World}
    (h : wpQuiet P l.toArray S (fun a' => wpList P l.toArray (OnlyN (Onward S (Stages P l Q r fin))) (pickL l [c]) a' w) (pickL l ps) a) : Stages P l Q ((ps, c) :: r) fin S a w := h
theorem stages_nil {l : List Oper} {Q : Act → World → Prop} {fin : List Nat} {S : World → Prop} {a : Act} {w : World}
    (h : wpQuiet P l.toArray S (fun a' => Q a' w) (pickL l fin) a) : Stages P l Q [] fin S a w := h
/-- Behind an operation that makes new memory. -/
theorem onward_later {W W' : World} {N : (World → Prop) → Act → World → Prop} {a : Act} (hb : Below W.heap.size W W') (h : N (fun w' => ∃ x : Later W', w' = x.w) a W') : Onward (fun w' => ∃ x : Later W, w' = x.w) N a W' :=
  ⟨_, fun _ ⟨z, hz⟩ => ⟨⟨z.w, bthen' hb z.h⟩, hz⟩, ⟨⟨W', Below.refl _ _⟩, rfl⟩, h⟩
theorem onward_normal {W W' : World} {N : (World → Prop) → Act → World → Prop} {a : Act} (hb : Below W.heap.size W W') (h : N (fun w' => ∃ x : Later W', w' = x.w) a W') : OnlyN (Onward (fun w' => ∃ x : Later W, w' = x.w) N) .normal a W' := onward_later hb h
theorem later_drew (W : World) : ∃ x : Later W, W.drew = x.w := ⟨⟨W.drew, (Below.refl _ _).drew⟩, rfl⟩
/-- A world with a property. -/
structure InS (S : World → Prop) where
  w : World
  h : S w
theorem inS_mk {S : World → Prop} {W : World} (h : S W) : ∃ x : InS S, W = x.w := ⟨⟨W, h⟩, rfl⟩
theorem onward_in {S : World → Prop} {W' : World} {N : (World → Prop) → Act → World → Prop} {a : Act} (hb : S W') (h : N (fun w' => ∃ x : InS S, w' = x.w) a W') : OnlyN (Onward (fun w' => ∃ x : InS S, w' = x.w) N) .normal a W' :=
  ⟨_, fun _ h => h, inS_mk hb, h⟩
/-- .. and from now on with another one too. -/
theorem onward_sub {S S' : World → Prop} {W' : World} {N : (World → Prop) → Act → World → Prop} {a : Act} (hs : ∀ x, S' x → S x) (hb : S' W') (h : N (fun w' => ∃ x : InS S', w' = x.w) a W') : OnlyN (Onward (fun w' => ∃ x : InS S, w' = x.w) N) .normal a W' :=
  ⟨_, fun _ ⟨z, hz⟩ => ⟨⟨z.w, hs _ z.h⟩, hz⟩, inS_mk hb, h⟩
end
end Mix
end Go.Proofs.Ytogajmbkjojdhaa
