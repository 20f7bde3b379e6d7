/- The plain mathematics of percentages. No program in sight. -/
import Derived.Test.YteifjlhkfmoljaaHistFold
set_option linter.unusedVariables false
namespace Go.Proofs.Yteifjlhkfmoljaa.HistLaw

/-- Are the runtimes of bucket b and those below enough? -/
def hit (h : List Int) (p : Int) (b : Nat) : Bool := decide (tw h * p ≤ tw (h.take (b + 1)) * 100)

/-- Is there an answer? -/
def plcOk (h : List Int) (p : Int) : Bool := rightB h && !(tw h == 0) && decide (1 ≤ p) && decide (p ≤ 100)

/-- The bucket of a percentage. -/
def plcB (h : List Int) (p : Int) : Nat := ((List.range 16).find? (hit h p)).getD 0

theorem plcB_is {h : List Int} {p : Int} {b : Nat} (hb : b < 16) (h1 : ∀ j, j < b → hit h p j = false) (h2 : hit h p b = true) : plcB h p = b := by
  have : (List.range 16).find? (hit h p) = some b := by
    rw [List.find?_range_eq_some]
    exact ⟨h2, List.mem_range.2 hb, fun j hj => by rw [h1 j hj]; rfl⟩
  simp [plcB, this]

theorem right_take {h : List Int} (hl : h.length = 16) (hr : rightB h = true) (k : Nat) : tw (h.take k) = sm (h.take k) :=
  tw_of_all (by simp; omega) (fun x hx => right_all hr x (List.mem_of_mem_take hx))

theorem sm_append (a b : List Int) : sm (a ++ b) = sm a + sm b := by simp [sm, List.sum_append]

theorem sm_take_le {h : List Int} (hr : rightB h = true) {j k : Nat} (hjk : j ≤ k) : sm (h.take j) ≤ sm (h.take k) := by
  have e : h.take k = h.take j ++ (h.take k).drop j := by
    have h1 := (List.take_append_drop j (h.take k)).symm
    rwa [List.take_take, Nat.min_eq_left hjk] at h1
  rw [e, sm_append]
  have : 0 ≤ sm ((h.take k).drop j) := sm_nonneg (fun x hx => (right_all hr x (List.mem_of_mem_take (List.mem_of_mem_drop hx))).1)
  omega

theorem take_bd {h : List Int} (hl : h.length = 16) (hr : rightB h = true) (k : Nat) : 0 ≤ tw (h.take k) ∧ tw (h.take k) ≤ 64 := by
  rw [right_take hl hr]
  have h1 : 0 ≤ sm (h.take k) := sm_nonneg (fun x hx => (right_all hr x (List.mem_of_mem_take hx)).1)
  have h2 := sm_take_le hr (j := k) (k := max k 16) (by omega)
  rw [List.take_of_length_le (show h.length ≤ max k 16 by omega)] at h2
  have := ((right_iff hl).1 hr).2
  omega

theorem tw_bd64 {h : List Int} (hl : h.length = 16) (hr : rightB h = true) : 0 ≤ tw h ∧ tw h ≤ 64 := by
  have := take_bd hl hr 16
  rwa [List.take_of_length_le (by omega)] at this

theorem hit_15 {h : List Int} {p : Int} (hl : h.length = 16) (hr : rightB h = true) (hp : p ≤ 100) : hit h p 15 = true := by
  have hb := tw_bd64 hl hr
  unfold hit
  rw [List.take_of_length_le (by omega)]
  exact decide_eq_true (Int.mul_le_mul_of_nonneg_left hp hb.1)

theorem plcB_spec {h : List Int} {p : Int} (hl : h.length = 16) (hr : rightB h = true) (hp : p ≤ 100) : plcB h p < 16 ∧ hit h p (plcB h p) = true ∧ ∀ j, j < plcB h p → hit h p j = false := by
  cases hf : (List.range 16).find? (hit h p) with
  | none =>
    have := List.find?_eq_none.1 hf 15 (by simp)
    rw [hit_15 hl hr hp] at this
    exact absurd rfl this
  | some b =>
    have e : plcB h p = b := by simp [plcB, hf]
    rw [List.find?_range_eq_some] at hf
    rw [e]
    exact ⟨List.mem_range.1 hf.2.1, hf.1, fun j hj => by simpa using hf.2.2 j hj⟩

theorem plcOk_iff {h : List Int} {p : Int} : plcOk h p = true ↔ rightB h = true ∧ tw h ≠ 0 ∧ 1 ≤ p ∧ p ≤ 100 := by
  simp [plcOk, and_assoc]

/-- A greater percentage never tells less. -/
theorem plcB_mono {h : List Int} {a b : Int} (hl : h.length = 16) (ha : plcOk h a = true) (hb : plcOk h b = true) (hab : a ≤ b) : plcB h a ≤ plcB h b := by
  obtain ⟨hr, -, -, ha100⟩ := plcOk_iff.1 ha
  obtain ⟨-, -, -, hb100⟩ := plcOk_iff.1 hb
  obtain ⟨h1, h2, h3⟩ := plcB_spec hl hr ha100
  obtain ⟨g1, g2, g3⟩ := plcB_spec hl hr hb100
  rcases Nat.lt_or_ge (plcB h b) (plcB h a) with hlt | hge
  · exfalso
    have h4 := h3 _ hlt
    have hb := tw_bd64 hl hr
    have h5 : tw h * a ≤ tw h * b := Int.mul_le_mul_of_nonneg_left hab hb.1
    unfold hit at h4 g2
    have := of_decide_eq_true g2
    have := of_decide_eq_false h4
    omega
  · exact hge

theorem fold_one (v : Nat) : fold [v] = addH nought v := by unfold fold; rw [List.foldl_cons, List.foldl_nil]
/-- One runtime alone. -/
theorem one_nth (v : Nat) (j : Nat) (hj : j < 16) : nth (addH nought v) j = if buck v = j then 1 else 0 := by
  have h := (fold_few 1 [v] rfl (by omega)).2 j hj
  have e := fold_one v
  rw [e] at h
  rw [h]
  by_cases hb : buck v = j <;> simp [cnt, hb]

theorem one_right (v : Nat) : rightB (addH nought v) = true ∧ tw (addH nought v) = 1 := by
  have e := fold_one v
  rw [← e]
  exact ⟨fold_right 1 [v] rfl, by rw [fold_total [v] (by simp)]; rfl⟩

theorem one_take (v : Nat) : ∀ k, k ≤ 16 → sm ((addH nought v).take k) = if buck v < k then 1 else 0
  | 0, _ => by simp [sm]
  | k + 1, hk => by
    have hl : (addH nought v).length = 16 := addH_length _ _ rfl
    rw [take_snoc _ k (by omega), sm_append, one_take v k (by omega)]
    have : sm [nth (addH nought v) k] = nth (addH nought v) k := by simp [sm]
    rw [this, one_nth v k (by omega)]
    by_cases h1 : buck v < k
    · rw [if_pos h1, if_neg (by omega), if_pos (by omega)]; rfl
    · by_cases h2 : buck v = k
      · rw [if_neg h1, if_pos h2, if_pos (by omega)]; rfl
      · rw [if_neg h1, if_neg h2, if_neg (by omega)]; rfl

theorem one_place (v : Nat) (p : Int) (h1 : 1 ≤ p) (h2 : p ≤ 100) : plcOk (addH nought v) p = true ∧ plcB (addH nought v) p = buck v := by
  obtain ⟨hr, ht⟩ := one_right v
  have hl : (addH nought v).length = 16 := addH_length _ _ rfl
  refine ⟨plcOk_iff.2 ⟨hr, by omega, h1, h2⟩, plcB_is (by have := buck_le v; omega) (fun j hj => ?_) ?_⟩
  · have hb := buck_le v
    unfold hit
    rw [right_take hl hr, one_take v _ (by omega), if_neg (by omega), ht]
    exact decide_eq_false (by omega)
  · have hb := buck_le v
    unfold hit
    rw [right_take hl hr, one_take v _ (by omega), if_pos (by omega), ht]
    exact decide_eq_true (by omega)

end Go.Proofs.Yteifjlhkfmoljaa.HistLaw
