/- The plain mathematics of histograms: no program in sight. -/
import Derived.WalkKit
import Derived.Lib.BitFns
set_option linter.unusedVariables false
namespace Go.Proofs.Yteifjlhkfmoljaa.HistLaw

theorem aux_fuel : ∀ (f v : Nat), v < 2 ^ f → Lib.bitLenAux (f + 1) v = Lib.bitLenAux f v
  | 0, v, h => by
    have : v = 0 := by simpa using h
    subst this; simp [Lib.bitLenAux]
  | f + 1, v, h => by
    have ih := aux_fuel f (v / 2) (by rw [Nat.pow_succ] at h; omega)
    have e : ∀ g x, Lib.bitLenAux (g + 1) x = if x = 0 then 0 else 1 + Lib.bitLenAux g (x / 2) := fun _ _ => rfl
    rw [e (f + 1) v, e f v, ih]

theorem bitLen_step (v : Nat) (h : v < 2 ^ 64) : Lib.bitLen v = if v = 0 then 0 else 1 + Lib.bitLen (v / 2) := by
  unfold Lib.bitLen
  rw [show (64 : Nat) = 63 + 1 from rfl, Lib.bitLenAux, aux_fuel 63 (v / 2) (by omega)]

theorem aux_bd : ∀ (f v : Nat), v < 2 ^ f → v < 2 ^ Lib.bitLenAux f v ∧ (v ≠ 0 → 2 ^ (Lib.bitLenAux f v - 1) ≤ v ∧ 1 ≤ Lib.bitLenAux f v)
  | 0, v, h => by
    have : v = 0 := by simpa using h
    subst this; simp [Lib.bitLenAux]
  | f + 1, v, h => by
    rw [Lib.bitLenAux]
    by_cases h0 : v = 0
    · subst h0; simp
    · rw [if_neg h0]
      have ih := aux_bd f (v / 2) (by rw [Nat.pow_succ] at h; omega)
      have e : 2 ^ (1 + Lib.bitLenAux f (v / 2)) = 2 * 2 ^ Lib.bitLenAux f (v / 2) := by rw [Nat.add_comm, Nat.pow_succ, Nat.mul_comm]
      refine ⟨by rw [e]; omega, fun _ => ⟨?_, by omega⟩⟩
      rw [show 1 + Lib.bitLenAux f (v / 2) - 1 = Lib.bitLenAux f (v / 2) by omega]
      by_cases h1 : v / 2 = 0
      · rw [h1]
        have : Lib.bitLenAux f 0 = 0 := by cases f <;> simp [Lib.bitLenAux]
        rw [this]; simp; omega
      · have h2 := ih.2 h1
        have e2 : 2 ^ Lib.bitLenAux f (v / 2) = 2 * 2 ^ (Lib.bitLenAux f (v / 2) - 1) := by
          have : Lib.bitLenAux f (v / 2) = (Lib.bitLenAux f (v / 2) - 1) + 1 := by omega
          rw [this, Nat.pow_succ]; simp; omega
        omega

/-- The bucket of a runtime. -/
def buck (v : Nat) : Nat := min (Lib.bitLen v) 15

theorem buck_le (v : Nat) : buck v ≤ 15 := Nat.min_le_right _ _

/-- A bucket's greatest runtime. -/
def highv (b : Int) : Int := if b < 0 ∨ 15 < b then 0 else if b = 15 then 18446744073709551615 else 2 ^ b.toNat - 1

theorem pow_le {j k : Nat} (h : j ≤ k) : (2 : Int) ^ j ≤ 2 ^ k := by
  have := Nat.pow_le_pow_right (n := 2) (by omega) h
  have e1 : (2 : Int) ^ j = ((2 ^ j : Nat) : Int) := by simp
  have e2 : (2 : Int) ^ k = ((2 ^ k : Nat) : Int) := by simp
  omega

theorem pow_ge1 (k : Nat) : (1 : Int) ≤ 2 ^ k := by have := pow_le (Nat.zero_le k); simpa using this

theorem highv_bd (b : Int) : 0 ≤ highv b ∧ highv b ≤ 18446744073709551615 := by
  unfold highv
  split
  · omega
  · split
    · omega
    · have h1 := pow_ge1 b.toNat
      have h2 := pow_le (j := b.toNat) (k := 15) (by omega)
      have : (2 : Int) ^ 15 = 32768 := by decide
      omega

theorem highv_mono {a b : Int} (h0 : 0 ≤ a) (h : a ≤ b) (hb : b ≤ 15) : highv a ≤ highv b := by
  by_cases hb15 : b = 15
  · have := highv_bd a
    have : highv b = 18446744073709551615 := by subst hb15; rfl
    omega
  · unfold highv
    rw [if_neg (by omega), if_neg (by omega), if_neg (by omega), if_neg (by omega)]
    have := pow_le (j := a.toNat) (k := b.toNat) (by omega)
    omega

theorem highv_strict {a b : Int} (h0 : 0 ≤ a) (h : a < b) (hb : b ≤ 15) : highv a < highv b := by
  have h1 : highv a < highv (a + 1) := by
    unfold highv
    rw [if_neg (by omega), if_neg (by omega), if_neg (by omega)]
    have e : (2 : Int) ^ (a + 1).toNat = 2 * 2 ^ a.toNat := by
      rw [show (a + 1).toNat = a.toNat + 1 by omega, Int.pow_succ]; omega
    have h1 := pow_ge1 a.toNat
    have h2 := pow_le (j := a.toNat) (k := 15) (by omega)
    have : (2 : Int) ^ 15 = 32768 := by decide
    split
    · omega
    · rw [e]; omega
  have := highv_mono (a := a + 1) (b := b) (by omega) (by omega) hb
  omega

theorem buck_high (v : Nat) (h : v < 2 ^ 64) : (v : Int) ≤ highv (buck v) ∧ (buck v = 0 ∨ highv ((buck v : Int) - 1) < v) := by
  have hb := aux_bd 64 v h
  change v < 2 ^ Lib.bitLen v ∧ (v ≠ 0 → 2 ^ (Lib.bitLen v - 1) ≤ v ∧ 1 ≤ Lib.bitLen v) at hb
  by_cases h15 : Lib.bitLen v < 15
  · have e : buck v = Lib.bitLen v := by unfold buck; omega
    rw [e]
    have p1 : ((2 : Int) ^ Lib.bitLen v) = ((2 ^ Lib.bitLen v : Nat) : Int) := by simp
    constructor
    · unfold highv
      rw [if_neg (by omega), if_neg (by omega), Int.toNat_natCast, p1]
      omega
    · by_cases h0 : v = 0
      · left; subst h0; rfl
      · right
        obtain ⟨h1, h2⟩ := hb.2 h0
        have p2 : ((2 : Int) ^ (Lib.bitLen v - 1)) = ((2 ^ (Lib.bitLen v - 1) : Nat) : Int) := by simp
        unfold highv
        rw [if_neg (by omega), if_neg (by omega), show ((Lib.bitLen v : Int) - 1).toNat = Lib.bitLen v - 1 by omega, p2]
        omega
  · have e : buck v = 15 := by unfold buck; omega
    rw [e]
    constructor
    · show (v : Int) ≤ 18446744073709551615
      omega
    · right
      have h0 : v ≠ 0 := by
        intro h0; subst h0; exact h15 (by decide)
      obtain ⟨h1, h2⟩ := hb.2 h0
      have h3 : 2 ^ 14 ≤ 2 ^ (Lib.bitLen v - 1) := Nat.pow_le_pow_right (by omega) (by omega)
      show (16383 : Int) < v
      omega

/-! ### totals, and which histograms may be -/

/-- A bucket's number. -/
def nth (h : List Int) (k : Nat) : Int := h[k]?.getD 0
theorem nth_eq (h : List Int) (k : Nat) (hk : k < h.length) : nth h k = h[k] := by simp [nth, hk]
theorem nth_mem (h : List Int) (k : Nat) (hk : k < h.length) : nth h k ∈ h := by rw [nth_eq h k hk]; exact List.getElem_mem hk
theorem nth_set (h : List Int) (k j : Nat) (x : Int) (hk : k < h.length) : nth (h.set k x) j = if j = k then x else nth h j := by
  unfold nth
  rw [List.getElem?_set]
  by_cases e : k = j
  · subst e; simp [hk]
  · rw [if_neg e, if_neg (Ne.symm e)]

/-- The sum, as the machine reckons it. -/
def tw (h : List Int) : Int := h.foldl (fun s x => IntKind.i64.wrap (s + x)) 0

theorem tw_snoc (h : List Int) (x : Int) : tw (h ++ [x]) = IntKind.i64.wrap (tw h + x) := by simp [tw, List.foldl_append]

theorem take_snoc (h : List Int) (k : Nat) (hk : k < h.length) : h.take (k + 1) = h.take k ++ [nth h k] := by
  rw [List.take_succ_eq_append_getElem hk, nth_eq h k hk]

theorem tw_take (h : List Int) (k : Nat) (hk : k < h.length) : tw (h.take (k + 1)) = IntKind.i64.wrap (tw (h.take k) + nth h k) := by
  rw [take_snoc h k hk, tw_snoc]

theorem wrap_bd (n : Int) : -9223372036854775808 ≤ IntKind.i64.wrap n ∧ IntKind.i64.wrap n ≤ 9223372036854775807 := by
  rw [IntKind.wrap_i64]; omega

theorem tw_bd (h : List Int) : -9223372036854775808 ≤ tw h ∧ tw h ≤ 9223372036854775807 := by
  rcases List.eq_nil_or_concat h with rfl | ⟨l, x, rfl⟩
  · simp [tw]
  · rw [List.concat_eq_append, tw_snoc]; exact wrap_bd _

/-- The true sum. -/
def sm (h : List Int) : Int := h.sum

theorem sm_bd (lo hi : Int) : ∀ (h : List Int), (∀ x ∈ h, lo ≤ x ∧ x ≤ hi) → lo * h.length ≤ sm h ∧ sm h ≤ hi * h.length
  | [], _ => by simp [sm]
  | x :: h, hx => by
    have ih := sm_bd lo hi h (fun y hy => hx y (by simp [hy]))
    have h1 := hx x (by simp)
    simp only [sm, List.sum_cons, List.length_cons] at *
    have e1 : lo * ((h.length + 1 : Nat) : Int) = lo * h.length + lo := by rw [Int.natCast_add, Int.mul_add]; simp
    have e2 : hi * ((h.length + 1 : Nat) : Int) = hi * h.length + hi := by rw [Int.natCast_add, Int.mul_add]; simp
    omega

theorem tw_sm (c : Int) (hc0 : 0 ≤ c) (hc : c ≤ 4611686018427387904) : ∀ (n : Nat) (h : List Int), h.length = n → c * n ≤ 4611686018427387904 → (∀ x ∈ h, -c ≤ x ∧ x ≤ c) → tw h = sm h
  | 0, h, hl, _, _ => by
    have : h = [] := List.length_eq_zero_iff.1 hl
    subst this; rfl
  | n + 1, h, hl, hcn, hx => by
    rcases List.eq_nil_or_concat h with rfl | ⟨l, x, rfl⟩
    · rfl
    · rw [List.concat_eq_append] at *
      have hl' : l.length = n := by simpa using hl
      have e1 : c * ((n + 1 : Nat) : Int) = c * n + c := by rw [Int.natCast_add, Int.mul_add]; simp
      have ih := tw_sm c hc0 hc n l hl' (by omega) (fun y hy => hx y (by simp [hy]))
      have hs := sm_bd (-c) c l (fun y hy => hx y (by simp [hy]))
      rw [hl'] at hs
      have h1 := hx x (by simp)
      have hm : (-c) * (n : Int) = -(c * n) := Int.neg_mul _ _
      rw [tw_snoc, ih, IntWalk.i64_in _ (by omega)]
      simp [sm, List.sum_append]

def inR (x : Int) : Bool := decide (0 ≤ x) && decide (x ≤ 64)

/-- May a histogram be? -/
def rightB (h : List Int) : Bool := h.all inR && decide (tw h ≤ 64)

theorem inR_iff {x : Int} : inR x = true ↔ 0 ≤ x ∧ x ≤ 64 := by simp [inR]

theorem right_all {h : List Int} (hr : rightB h = true) : ∀ x ∈ h, 0 ≤ x ∧ x ≤ 64 := fun x hx => by
  simp only [rightB, Bool.and_eq_true, List.all_eq_true] at hr
  exact inR_iff.1 (hr.1 x hx)

theorem tw_of_all {h : List Int} (hl : h.length ≤ 1024) (ha : ∀ x ∈ h, 0 ≤ x ∧ x ≤ 64) : tw h = sm h :=
  tw_sm 64 (by omega) (by omega) h.length h rfl (by omega) (fun x hx => by have := ha x hx; omega)

theorem right_iff {h : List Int} (hl : h.length = 16) : rightB h = true ↔ (∀ x ∈ h, 0 ≤ x ∧ x ≤ 64) ∧ sm h ≤ 64 := by
  constructor
  · intro hr
    have ha := right_all hr
    refine ⟨ha, ?_⟩
    rw [← tw_of_all (by omega) ha]
    simp only [rightB, Bool.and_eq_true, decide_eq_true_eq] at hr
    exact hr.2
  · rintro ⟨ha, hs⟩
    simp only [rightB, Bool.and_eq_true, decide_eq_true_eq, List.all_eq_true]
    exact ⟨fun x hx => inR_iff.2 (ha x hx), by rw [tw_of_all (by omega) ha]; exact hs⟩

theorem sm_nonneg {h : List Int} (ha : ∀ x ∈ h, 0 ≤ x) : 0 ≤ sm h := by
  induction h with
  | nil => simp [sm]
  | cons x h ih =>
    have h1 := ha x (by simp)
    have h2 := ih (fun y hy => ha y (by simp [hy]))
    simp only [sm, List.sum_cons] at *
    omega

/-- Halved where it is full. -/
def halve (h : List Int) : List Int := if tw h = 64 then h.map (fun x => x / 2) else h

/-- One runtime more. -/
def addH (h : List Int) (v : Nat) : List Int :=
  if rightB h = true then (halve h).set (buck v) (nth (halve h) (buck v) + 1) else List.replicate 16 0

theorem halve_length (h : List Int) : (halve h).length = h.length := by unfold halve; split <;> simp

theorem addH_length (h : List Int) (v : Nat) (hl : h.length = 16) : (addH h v).length = 16 := by
  unfold addH; split <;> simp [halve_length, hl]

theorem sm_set : ∀ (h : List Int) (k : Nat), k < h.length → sm (h.set k (nth h k + 1)) = sm h + 1
  | [], k, hk => by simp at hk
  | x :: h, 0, _ => by simp [sm, nth]; omega
  | x :: h, k + 1, hk => by
    have := sm_set h k (by simpa using hk)
    simp only [sm, nth, List.set_cons_succ, List.sum_cons, List.getElem?_cons_succ] at *
    omega

theorem sm_half : ∀ (h : List Int), (∀ x ∈ h, 0 ≤ x) → 0 ≤ sm (h.map (fun x => x / 2)) ∧ 2 * sm (h.map (fun x => x / 2)) ≤ sm h
  | [], _ => by simp [sm]
  | x :: h, ha => by
    have ih := sm_half h (fun y hy => ha y (by simp [hy]))
    have := ha x (by simp)
    simp only [sm, List.map_cons, List.sum_cons] at *
    omega

theorem mem_set_or {h : List Int} {k : Nat} {y x : Int} (hx : x ∈ h.set k y) : x = y ∨ x ∈ h := by
  rcases List.mem_or_eq_of_mem_set hx with h1 | h1
  · exact .inr h1
  · exact .inl h1

theorem halve_right {h : List Int} (hl : h.length = 16) (hr : rightB h = true) : (∀ x ∈ halve h, 0 ≤ x ∧ x ≤ 64) ∧ 0 ≤ sm (halve h) ∧ sm (halve h) ≤ 63 := by
  obtain ⟨ha, hs⟩ := (right_iff hl).1 hr
  unfold halve
  rw [tw_of_all (by omega) ha]
  split
  · next hf =>
    have := sm_half h (fun x hx => (ha x hx).1)
    refine ⟨fun x hx => ?_, by omega, by omega⟩
    obtain ⟨y, hy, rfl⟩ := List.mem_map.1 hx
    have := ha y hy; omega
  · exact ⟨ha, sm_nonneg (fun x hx => (ha x hx).1), by omega⟩

theorem le_sm {h : List Int} (ha : ∀ x ∈ h, 0 ≤ x) {x : Int} (hx : x ∈ h) : x ≤ sm h := by
  induction h with
  | nil => cases hx
  | cons y h ih =>
    have h1 := sm_nonneg (h := h) (fun z hz => ha z (by simp [hz]))
    have h2 := ha y (by simp)
    rcases List.mem_cons.1 hx with rfl | hx'
    · simp only [sm, List.sum_cons] at *; omega
    · have := ih (fun z hz => ha z (by simp [hz])) hx'
      simp only [sm, List.sum_cons] at *; omega

theorem addH_right {h : List Int} (hl : h.length = 16) (hr : rightB h = true) (v : Nat) : rightB (addH h v) = true ∧ sm (addH h v) = sm (halve h) + 1 ∧ tw (addH h v) = sm (halve h) + 1 := by
  obtain ⟨h1, h2, h3⟩ := halve_right hl hr
  have hb := buck_le v
  have e : addH h v = (halve h).set (buck v) (nth (halve h) (buck v) + 1) := if_pos hr
  have hs : sm (addH h v) = sm (halve h) + 1 := by rw [e]; exact sm_set _ _ (by rw [halve_length]; omega)
  have hlen := addH_length h v hl
  have hall : ∀ x ∈ addH h v, 0 ≤ x ∧ x ≤ 64 := by
    intro x hx
    rw [e] at hx
    rcases mem_set_or hx with rfl | hx
    · have hlt : buck v < (halve h).length := by rw [halve_length]; omega
      have hm := nth_mem _ _ hlt
      have := h1 _ hm
      have := le_sm (fun y hy => (h1 y hy).1) hm
      omega
    · exact h1 x hx
  refine ⟨(right_iff hlen).2 ⟨hall, by omega⟩, hs, by rw [tw_of_all (by omega) hall, hs]⟩

end Go.Proofs.Yteifjlhkfmoljaa.HistLaw
