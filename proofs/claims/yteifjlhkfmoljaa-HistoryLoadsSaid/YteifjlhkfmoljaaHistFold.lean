/- Runtimes counted one behind the other: order changes nothing while they are few. No program in sight. -/
import Derived.Test.YteifjlhkfmoljaaHistLaw
set_option linter.unusedVariables false
namespace Go.Proofs.Yteifjlhkfmoljaa.HistLaw

def nought : List Int := List.replicate 16 0
theorem nought_right : rightB nought = true := by decide +kernel

/-- All of some runtimes. -/
def fold (l : List Nat) : List Int := l.foldl addH nought
theorem fold_snoc (l : List Nat) (v : Nat) : fold (l ++ [v]) = addH (fold l) v := by simp [fold]

theorem fold_length (l : List Nat) : (fold l).length = 16 := by
  rcases List.eq_nil_or_concat l with rfl | ⟨l', x, rfl⟩
  · rfl
  · rw [List.concat_eq_append, fold_snoc]
    exact addH_length _ _ (fold_length l')
termination_by l.length
decreasing_by simp_all

theorem fold_right : ∀ (n : Nat) (l : List Nat), l.length = n → rightB (fold l) = true
  | 0, l, h => by
    have : l = [] := List.length_eq_zero_iff.1 h
    subst this; exact nought_right
  | n + 1, l, h => by
    rcases List.eq_nil_or_concat l with rfl | ⟨l', x, rfl⟩
    · exact nought_right
    · rw [List.concat_eq_append] at *
      rw [fold_snoc]
      exact (addH_right (fold_length l') (fold_right n l' (by simpa using h)) x).1

theorem fold_pos (l : List Nat) (h : l ≠ []) : 1 ≤ tw (fold l) := by
  rcases List.eq_nil_or_concat l with rfl | ⟨l', x, rfl⟩
  · exact absurd rfl h
  · rw [List.concat_eq_append, fold_snoc]
    have hr := fold_right _ l' rfl
    have := (addH_right (fold_length l') hr x).2.2
    have := (halve_right (fold_length l') hr).2.1
    omega

/-- How many fall into a bucket. -/
def cnt (l : List Nat) (j : Nat) : Nat := l.countP (fun v => buck v == j)

theorem fold_few : ∀ (n : Nat) (l : List Nat), l.length = n → n ≤ 64 → sm (fold l) = n ∧ ∀ j, j < 16 → nth (fold l) j = cnt l j
  | 0, l, h, _ => by
    have : l = [] := List.length_eq_zero_iff.1 h
    subst this
    refine ⟨by decide +kernel, fun j hj => ?_⟩
    simp only [fold, nought, List.foldl_nil, nth, cnt, List.countP_nil]
    rw [List.getElem?_replicate]; simp [hj]
  | n + 1, l, h, hn => by
    rcases List.eq_nil_or_concat l with rfl | ⟨l', x, rfl⟩
    · simp at h
    · rw [List.concat_eq_append] at *
      have hl' : l'.length = n := by simpa using h
      obtain ⟨h1, h2⟩ := fold_few n l' hl' (by omega)
      have hr := fold_right _ l' rfl
      have hlen := fold_length l'
      have ht : tw (fold l') = n := by rw [tw_of_all (by omega) (right_all hr), h1]
      have hh : halve (fold l') = fold l' := by unfold halve; rw [if_neg (by omega)]
      obtain ⟨-, q2, -⟩ := addH_right hlen hr x
      rw [fold_snoc]
      refine ⟨by rw [q2, hh, h1]; simp, fun j hj => ?_⟩
      have hb := buck_le x
      unfold addH
      rw [if_pos hr, hh, nth_set _ _ _ _ (by omega)]
      simp only [cnt, List.countP_append, List.countP_cons, List.countP_nil]
      by_cases e : j = buck x
      · subst e
        rw [if_pos rfl, h2 _ hj]
        simp [cnt]
      · rw [if_neg e, h2 _ hj]
        have : (buck x == j) = false := by simpa using fun h => e h.symm
        simp [cnt, this]

theorem nth_ext' {a b : List Int} (ha : a.length = 16) (hb : b.length = 16) (h : ∀ i, i < 16 → nth a i = nth b i) : a = b := by
  apply List.ext_getElem (by omega)
  intro i h1 h2
  have := h i (by omega)
  rwa [nth_eq a i h1, nth_eq b i h2] at this

theorem fold_reverse (l : List Nat) (h : l.length ≤ 64) : fold l.reverse = fold l := by
  refine nth_ext' (fold_length _) (fold_length _) (fun i hi => ?_)
  rw [(fold_few _ l.reverse rfl (by simpa using h)).2 i hi, (fold_few _ l rfl h).2 i hi]
  simp [cnt, List.countP_reverse]

theorem fold_total (l : List Nat) (h : l.length ≤ 64) : tw (fold l) = l.length := by
  rw [tw_of_all (by rw [fold_length]; omega) (right_all (fold_right _ l rfl)), (fold_few _ l rfl h).1]

theorem fold_take (l : List Nat) (k : Nat) (h : k < l.length) : fold (l.take (k + 1)) = addH (fold (l.take k)) (l[k]) := by
  rw [List.take_succ_eq_append_getElem h, fold_snoc]
theorem fold_take_rev (l : List Nat) (k : Nat) (h : k < l.length) : fold (l.reverse.take (k + 1)) = addH (fold (l.reverse.take k)) (l[l.length - 1 - k]) := by
  rw [List.take_succ_eq_append_getElem (by simpa using h), fold_snoc, List.getElem_reverse]

end Go.Proofs.Yteifjlhkfmoljaa.HistLaw
