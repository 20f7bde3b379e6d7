/- Invocations: one call, in plain Lean; what stays. -/
import Derived.Test.YtogajmbkjojdhaaInvIn
set_option linter.unusedVariables false
set_option linter.unusedSimpArgs false
set_option maxRecDepth 100000
namespace Go.Proofs.Ytogajmbkjojdhaa
open Go.RowKit

def stN (c : Cfg) (last : Int) (L : List Iv) (a : Ia) : Int := if a.kind = 0 then openN c last L a.x.tn a.x.nm a.x.wt else last
def stL (c : Cfg) (last : Int) (L : List Iv) (a : Ia) : List Iv :=
  if a.kind = 0 then openL c last L a.x.tn a.x.nm a.x.wt else if a.kind = 1 then CloseL L a.x.no else if a.kind = 2 then admitL c L a.x.no else if a.kind = 3 then leaveL L a.x.no else L
def stT (L : List Iv) (a : Ia) : Int := if a.kind = 1 ∨ a.kind = 2 ∨ a.kind = 3 then ((fNo L a.x.no).getD zeroIv).tn else a.x.tn
def Bnd (c : Cfg) (L : List Iv) : Prop := ∀ t, loadT L t ≤ quota c t
theorem tensF_all : ∀ (T : List Ten) (acc : List ByteArray), tensF acc T = 0 → ∀ x ∈ T, tenv x = 0
  | [], _, _, x, hx => by cases hx
  | t :: r, acc, h, x, hx => by
    unfold tensF at h
    split at h
    · rename_i h1; exact absurd h h1
    rename_i h1
    split at h
    · cases h
    rcases List.mem_cons.1 hx with rfl | hx
    · omega
    · exact tensF_all r _ h x hx
theorem quota_pos {c : Cfg} (h : checkv c = 0) (t : Int) : 0 ≤ quota c t := by
  have ht : tensv c.T = 0 := by
    unfold checkv at h
    split at h
    · rename_i h1; exact absurd h h1
    · rename_i h1; omega
  have hf : tensF [] c.T = 0 := by
    unfold tensv at ht
    split at ht
    · exact ht
    · cases ht
  unfold quota
  cases hx : c.T[t.toNat]? with
  | none => exact Int.le_refl _
  | some x =>
    have h1 := tensF_all _ _ hf x (List.mem_of_getElem? hx)
    unfold tenv at h1
    split at h1
    · cases h1
    split at h1
    · rename_i h2
      have := (inB_true.1 h2.2).1
      show 0 ≤ x.q
      omega
    · cases h1
theorem Bnd.nil {c : Cfg} (h : checkv c = 0) : Bnd c [] := fun t => quota_pos h t
theorem load_cons (x : Iv) (L : List Iv) (t : Int) : loadT (x :: L) t = (if x.tn = t then x.ld else 0) + loadT L t := by
  unfold loadT sumL
  rw [List.filter_cons]
  by_cases h : x.tn = t
  · rw [if_pos (by simp [isTn, h]), if_pos h]; rfl
  · rw [if_neg (by simp [isTn, h]), if_neg h]; omega
theorem load_snoc (L : List Iv) (x : Iv) (t : Int) : loadT (L ++ [x]) t = loadT L t + (if x.tn = t then x.ld else 0) := by
  induction L with
  | nil => rw [List.nil_append, load_cons]; show _ + (0 : Int) = (0 : Int) + _; omega
  | cons a L ih => rw [List.cons_append, load_cons, load_cons, ih]; omega
theorem load_drop (L : List Iv) (n t : Int) (h : ∀ x ∈ L, 0 ≤ x.ld) : loadT (dropI L n) t ≤ loadT L t := by
  induction L with
  | nil => exact Int.le_refl _
  | cons a L ih =>
    have ih := ih fun x hx => h x (List.mem_cons_of_mem _ hx)
    have ha := h a (List.mem_cons_self ..)
    unfold dropI at *
    rw [List.filter_cons, load_cons]
    have : 0 ≤ (if a.tn = t then a.ld else 0) := by split <;> omega
    split
    · rw [load_cons]; omega
    · omega
theorem load_less (L : List Iv) (n t : Int) : loadT (moreI L n (-1)) t ≤ loadT L t := by
  induction L with
  | nil => exact Int.le_refl _
  | cons a L ih =>
    have e : moreI (a :: L) n (-1) = (if isNo n a = true then { a with ld := a.ld + -1 } else a) :: moreI L n (-1) := rfl
    rw [e, load_cons, load_cons]
    by_cases h : isNo n a = true
    · rw [if_pos h]
      show (if a.tn = t then a.ld + -1 else 0) + _ ≤ _
      split <;> omega
    · rw [if_neg h]; omega
theorem load_same (L : List Iv) (n d t : Int) (h : ∀ x ∈ L, x.no = n → x.tn ≠ t) : loadT (moreI L n d) t = loadT L t := by
  induction L with
  | nil => rfl
  | cons a L ih =>
    have ih := ih fun x hx => h x (List.mem_cons_of_mem _ hx)
    have ha := h a (List.mem_cons_self ..)
    have e : moreI (a :: L) n d = (if isNo n a = true then { a with ld := a.ld + d } else a) :: moreI L n d := rfl
    rw [e, load_cons, load_cons, ih]
    by_cases h9 : isNo n a = true
    · rw [if_pos h9]
      have := ha (by simpa [isNo] using h9)
      show (if a.tn = t then a.ld + d else 0) + _ = _
      rw [if_neg this, if_neg this]
    · rw [if_neg h9]
theorem load_one (L : List Iv) (n t : Int) (ha : L.Pairwise fun x y => x.no < y.no) : loadT (moreI L n 1) t ≤ loadT L t + 1 := by
  induction L with
  | nil => show (0 : Int) ≤ 0 + 1; omega
  | cons a L ih =>
    obtain ⟨h1, h2⟩ := List.pairwise_cons.1 ha
    have ih := ih h2
    have e : moreI (a :: L) n 1 = (if isNo n a = true then { a with ld := a.ld + 1 } else a) :: moreI L n 1 := rfl
    rw [e, load_cons, load_cons]
    by_cases h9 : isNo n a = true
    · rw [if_pos h9]
      have h0 : a.no = n := by simpa [isNo] using h9
      rw [load_same L n 1 t fun x hx e2 => by have := h1 x hx; omega]
      show (if a.tn = t then a.ld + 1 else 0) + _ ≤ _
      split <;> omega
    · rw [if_neg h9]; omega
theorem Bnd.step {c : Cfg} {last : Int} {L : List Iv} (h : Bnd c L) (ho : InvOk c last L) (a : Ia) : Bnd c (stL c last L a) := by
  unfold stL
  split
  · unfold openL
    split
    · intro t
      rw [load_snoc]
      have := h t
      show loadT L t + (if a.x.tn = t then 0 else 0) ≤ _
      split <;> omega
    · exact h
  split
  · unfold CloseL
    split
    · exact fun t => Int.le_trans (load_drop L _ t fun x hx => (ho.loads x hx).1) (h t)
    · exact h
  split
  · unfold admitL
    split
    · rename_i hr
      obtain ⟨x, hf, hq, -⟩ := room_zero hr
      intro t
      by_cases ht : x.tn = t
      · have := load_one L a.x.no t ho.asc
        rw [ht] at hq
        omega
      · rw [load_same L a.x.no 1 t fun y hy e => by
          have h1 := fNo_of ho.asc hy
          rw [e, hf] at h1
          obtain rfl := Option.some.inj h1
          exact ht]
        exact h t
    · exact h
  split
  · unfold leaveL
    split
    · exact fun t => Int.le_trans (load_less L _ t) (h t)
    · exact h
  · exact h
/-- What is another tenant's, stays. -/
theorem st_mem {c : Cfg} {last : Int} {L : List Iv} (ho : InvOk c last L) (a : Ia) {x : Iv} (hx : x ∈ L) (ht : x.tn ≠ stT L a) : x ∈ stL c last L a := by
  have hn : a.kind = 1 ∨ a.kind = 2 ∨ a.kind = 3 → x.no ≠ a.x.no := fun h e => by
    apply ht
    unfold stT
    rw [if_pos h, ← e, fNo_of ho.asc hx]
    rfl
  have hm : ∀ d, x.no ≠ a.x.no → x ∈ moreI L a.x.no d := fun d h => mem_more.2 ⟨x, hx, by rw [if_neg (by simp [isNo, h])]⟩
  unfold stL
  split
  · unfold openL
    split
    · exact List.mem_append.2 (.inl hx)
    · exact hx
  split
  · rename_i h1
    unfold CloseL
    split
    · exact mem_drop.2 ⟨hx, hn (.inl h1)⟩
    · exact hx
  split
  · rename_i h1
    unfold admitL
    split
    · exact hm _ (hn (.inr (.inl h1)))
    · exact hx
  split
  · rename_i h1
    unfold leaveL
    split
    · exact hm _ (hn (.inr (.inr h1)))
    · exact hx
  · exact hx
theorem InvOk.stepA {c : Cfg} {last : Int} {L : List Iv} (ho : InvOk c last L) (hcap : 0 ≤ c.cap) (a : Ia) (ha : IvIn a.x) (hl : last + 1 < 9223372036854775807) : InvOk c (stN c last L a) (stL c last L a) := by
  unfold stN stL
  split
  · exact ho.open hcap _ _ _ ha.1 hl
  split
  · exact CloseL.ok ho _
  split
  · exact ho.admits _
  split
  · exact ho.leave _
  · exact ho
theorem st_len {c : Cfg} {last : Int} {L : List Iv} (a : Ia) : (stL c last L a).length ≤ L.length + 1 := by
  unfold stL
  split
  · unfold openL; split
    · simp
    · omega
  split
  · unfold CloseL; split
    · have := List.length_filter_le (fun x => !isNo a.x.no x) L; unfold dropI; omega
    · omega
  split
  · unfold admitL; split
    · rw [more_len]; omega
    · omega
  split
  · unfold leaveL; split
    · rw [more_len]; omega
    · omega
  · omega
theorem st_last {c : Cfg} {last : Int} {L : List Iv} (a : Ia) : stN c last L a ≤ last + 1 := by
  unfold stN
  split
  · unfold openN; split <;> omega
  · omega
/-- Reads as these, and lies in no block of N. -/
def ReadsN {α : Type} (R : Rec α) (N : Nat → Prop) (w : World) (v : Value) (L : List α) : Prop :=
  (L = [] ∧ ∃ a cap, v = .slice a 0 cap) ∨ (∃ b off cap, v = .slice (some ⟨b, off, none⟩) L.length cap ∧ ¬ N b ∧ b < w.heap.size ∧ ∀ i x, L[i]? = some x → w.rangeAt b (off + i * R.n) (R.cells x))
theorem ReadsN.reads {α : Type} {R : Rec α} {N : Nat → Prop} {w : World} {v : Value} {L : List α} (h : ReadsN R N w v L) : Reads R w v L := by
  rcases h with h | ⟨b, off, cap, h1, -, -, h2⟩
  · exact .inl h
  · exact .inr ⟨b, off, cap, h1, h2⟩
theorem range_of_heap {w w' : World} {b o : Nat} {cs : List Value} (h : w.rangeAt b o cs) (he : w'.heap[b]? = w.heap[b]?) : w'.rangeAt b o cs := fun j v hv => by
  have := h j v hv
  unfold World.cell? at this ⊢
  rw [he]
  exact this
theorem ReadsN.updP {α : Type} {R : Rec α} {N T : Nat → Prop} {w w' : World} {v : Value} {L : List α} (h : ReadsN R N w v L) (hu : UpdP T w w') (hT : ∀ k, T k → N k) : ReadsN R N w' v L := by
  rcases h with h | ⟨b, off, cap, h1, hn, hlt, h2⟩
  · exact .inl h
  · exact .inr ⟨b, off, cap, h1, hn, Nat.lt_of_lt_of_le hlt hu.size, fun i x hx => range_of_heap (h2 i x hx) (hu.block b hlt (fun hb => hn (hT b hb)))⟩
theorem Owns.readsN {α : Type} {R : Rec α} (k : R.Ok) {B : Nat} {N : Nat → Prop} {w : World} {v : Value} {L : List α} (h : Owns R B w v L) (hN : ∀ k, B ≤ k → k < w.heap.size → ¬ N k) : ReadsN R N w v L := by
  have hr := h.lts k
  rcases h.nilOf with ⟨rfl, rfl⟩ | ⟨g, cap, rfl, h1, h2⟩
  · exact .inl ⟨rfl, _, _, rfl⟩
  · rcases hr with h3 | ⟨b, off, cap', h3, h4⟩
    · obtain ⟨rfl, -⟩ := h3
      exact .inl ⟨rfl, _, _, rfl⟩
    · simp only [Value.slice.injEq, Option.some.injEq, Addr.mk.injEq] at h3
      obtain ⟨⟨rfl, rfl, -⟩, -, rfl⟩ := h3
      exact .inr ⟨g, 0, cap, rfl, hN g h1 h2, h2, h4⟩
end Go.Proofs.Ytogajmbkjojdhaa
