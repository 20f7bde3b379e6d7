/- Two histograms held against each other. -/
import Derived.Test.YteifjlhkfmoljaaHistWalks3
import Derived.Test.YteifjlhkfmoljaaBase
set_option linter.unusedVariables false
namespace Go.Proofs.Yteifjlhkfmoljaa
open HistLaw

theorem run_forIn_stop {P : Program} {σ : Type} {w : World} (s0 s1 : σ) (f : Nat → σ → Sem (ForInStep σ)) (g : Nat → Bool) :
    ∀ l : List Nat, (∀ i ∈ l, (f i s0).run P w = .ok (if g i = true then .yield s0 else .done s1) w) → (forIn l s0 f).run P w = .ok (if l.all g = true then s0 else s1) w
  | [], _ => by simp
  | i :: l, h => by
    have h1 := h i (by simp)
    have ih := run_forIn_stop s0 s1 f g l (fun j hj => h j (by simp [hj]))
    simp only [List.forIn_cons, Sem.run_bind, h1, Result.andThen_ok, List.all_cons]
    by_cases hg : g i = true
    · simp [hg, ih]
    · simp [hg]

theorem hist_part (h : List Int) (hl : h.length = 16) (k : Nat) (hk : k < 16) (w : World) : (part 3 (hcells h) (k * 1)).run Try.prog w = .ok (.int .i64 (nth h k)) w := by
  have hg := hcells_get h k (by omega)
  have ha : (isAgg 3).run Try.prog w = .ok false w := by kernel_rfl
  simp [part, ha, hg]

theorem nth_ext {a b : List Int} (ha : a.length = 16) (hb : b.length = 16) (h : ∀ i, i < 16 → nth a i = nth b i) : a = b := by
  apply List.ext_getElem (by omega)
  intro i h1 h2
  have := h i (by omega)
  rwa [nth_eq a i h1, nth_eq b i h2] at this

theorem run_equalIn_hist (d : Nat) (a b : List Int) (w : World) (ha : a.length = 16) (hb : b.length = 16) : (Op.equalIn (d + 2) 49 (.agg (hcells a)) (.agg (hcells b))).run Try.prog w = .ok (decide (a = b)) w := by
  have hs : (sizeOf 3).run Try.prog w = .ok 1 w := by kernel_rfl
  unfold Op.equalIn
  simp only [Sem.run_bind, run_underlying histU, Result.andThen_ok, hs, Std.Legacy.Range.forIn_eq_forIn_range']
  rw [run_forIn_stop (σ := Option Bool × Unit) (none, ()) (some false, ()) _ (fun i => nth a i == nth b i)]
  · by_cases h : a = b
    · subst h; simp
    · have hn : (List.range' 0 16).all (fun i => nth a i == nth b i) = false := by
        rw [Bool.eq_false_iff]
        intro hall
        apply h
        refine nth_ext ha hb (fun i hi => ?_)
        have := List.all_eq_true.1 hall i (by simp [List.mem_range']; omega)
        simpa using this
      simp [Std.Legacy.Range.size, hn, h]
  · intro i hi
    have hi : i < 16 := by
      simp [List.mem_range', Std.Legacy.Range.size] at hi; omega
    simp only [Sem.run_bind, hist_part a ha i hi, hist_part b hb i hi, Result.andThen_ok, run_equalIn_int w d 3 .i64 .i64 _ _ Try.underlying3]
    cases (nth a i == nth b i) <;> simp

theorem hist_same (a : List Int) (ha : a.length = 16) (w : World) : (Op.equalIn 10000 49 (.agg (hcells a)) (.agg (hcells a))).run Try.prog w = .ok true w := by
  have := run_equalIn_hist 9998 a a w ha ha
  simpa using this
theorem histGuard : Try.prog.eqGuardType Try.prog.depth 49 = false := by kernel_rfl
end Go.Proofs.Yteifjlhkfmoljaa
