/- Runes of a text, as lists of bytes; kinds, names, folding; of no program. -/
import Derived.Lib.DecodeN
import Derived.Lib.RuneBytes
import Derived.Laws.RangeAny
set_option linter.unusedVariables false
namespace Go.Proofs.Ytogajmbkjojdhaa
open Go.RowKit

def byteAt (l : List UInt8) (i : Nat) : Nat := (l.getD i 0).toNat
/-- The first rune of some bytes, and its width. -/
def decL (l : List UInt8) : Nat × Nat := Lib.decodeN l.length (byteAt l 0) (byteAt l 1) (byteAt l 2) (byteAt l 3)

theorem get_list (s : ByteArray) (i k : Nat) : (s.get! (i + k)).toNat = byteAt (s.data.toList.drop i) k := by
  unfold byteAt
  rw [List.getD_eq_getElem?_getD, List.getElem?_drop]
  show (s.data[i + k]!).toNat = _
  rw [getElem!_def]
  rw [Array.getElem?_toList]
  cases s.data[i + k]? <;> rfl
theorem decode_drop (s : ByteArray) (i : Nat) : Utf8.decode s i = decL (s.data.toList.drop i) := by
  rw [Lib.decode_at]
  unfold decL
  have h0 := get_list s i 0
  rw [Nat.add_zero] at h0
  rw [h0, get_list, get_list, get_list, List.length_drop]
  rfl

theorem decL_width (l : List UInt8) (h : l ≠ []) : 1 ≤ (decL l).2 ∧ (decL l).2 ≤ l.length ∧ (decL l).2 ≤ 4 := by
  have hl : 1 ≤ l.length := by cases l with | nil => exact absurd rfl h | cons => simp
  unfold decL Lib.decodeN
  repeat' split
  all_goals simp only
  all_goals omega
theorem decL_valid (l : List UInt8) : (decL l).1 < 55296 ∨ (57344 ≤ (decL l).1 ∧ (decL l).1 ≤ 1114111) := by
  unfold decL Lib.decodeN
  repeat' split
  all_goals simp only
  all_goals omega
theorem decL_small (l : List UInt8) (h : l ≠ []) (hr : (decL l).1 ≤ 2047) : Lib.encodeRune ((decL l).1 : Nat) = l.take (decL l).2 ∧ (decL l).2 ≤ 2 := by
  have hl : 1 ≤ l.length := by cases l with | nil => exact absurd rfl h | cons => simp
  match l, h with
  | a :: t, _ =>
  have ha : byteAt (a :: t) 0 = a.toNat := rfl
  have h256 := a.toNat_lt
  unfold decL Lib.decodeN at hr ⊢
  rw [ha] at hr ⊢
  by_cases c0 : a.toNat < 128
  · simp only [if_pos c0] at hr ⊢
    refine ⟨?_, by omega⟩
    unfold Lib.encodeRune
    rw [Lib.encodeRuneZ_one (by omega) (by omega)]
    simp
  · rw [if_neg c0] at hr ⊢
    by_cases c1 : a.toNat / 32 = 6 ∧ (1 < (a :: t).length ∧ byteAt (a :: t) 1 / 64 = 2)
    · rw [if_pos c1] at hr ⊢
      obtain ⟨b, t', rfl⟩ : ∃ b t', t = b :: t' := by
        cases t with
        | nil => simp at c1
        | cons b t' => exact ⟨b, t', rfl⟩
      have hb : byteAt (a :: b :: t') 1 = b.toNat := rfl
      have h256b := b.toNat_lt
      rw [hb] at hr c1 ⊢
      by_cases c2 : a.toNat % 32 * 64 + b.toNat % 64 ≥ 128
      · rw [if_pos c2] at hr ⊢
        refine ⟨?_, by simp⟩
        unfold Lib.encodeRune
        simp only at hr ⊢
        rw [Lib.encodeRuneZ_two (by omega) (by omega)]
        have e1 : (192 + ((a.toNat % 32 * 64 + b.toNat % 64 : Nat) : Int) / 64).toNat = a.toNat := by omega
        have e2 : (128 + ((a.toNat % 32 * 64 + b.toNat % 64 : Nat) : Int) % 64).toNat = b.toNat := by omega
        simp only [List.map_cons, List.map_nil, e1, e2, List.take_succ_cons, List.take_zero]
        simp
      · rw [if_neg c2] at hr
        simp at hr
    · rw [if_neg c1] at hr
      exfalso
      revert hr
      repeat' split
      all_goals simp only
      all_goals omega

set_option maxRecDepth 100000 in
set_option maxHeartbeats 4000000 in
theorem decodeN_less (n n' b0 b1 b2 b3 c1 c2 c3 : Nat) (hn : n' ≤ n) (h0 : 1 ≤ n') (h1 : 1 < n' → c1 = b1) (h2 : 2 < n' → c2 = b2) (h3 : 3 < n' → c3 = b3) (hw : (Lib.decodeN n b0 b1 b2 b3).2 ≤ n') :
    Lib.decodeN n' b0 c1 c2 c3 = Lib.decodeN n b0 b1 b2 b3 := by
  by_cases k0 : b0 < 128
  · unfold Lib.decodeN; rw [if_pos k0, if_pos k0]
  · by_cases k1 : 1 < n'
    · obtain rfl := h1 k1
      by_cases k2 : 2 < n'
      · obtain rfl := h2 k2
        by_cases k3 : 3 < n'
        · obtain rfl := h3 k3
          have e1 : (1 < n') = (1 < n) := propext (by omega)
          have e2 : (2 < n') = (2 < n) := propext (by omega)
          have e3 : (3 < n') = (3 < n) := propext (by omega)
          unfold Lib.decodeN
          simp only [e1, e2, e3]
        · have e1 : (1 < n') = (1 < n) := propext (by omega)
          have e2 : (2 < n') = (2 < n) := propext (by omega)
          unfold Lib.decodeN at hw ⊢
          simp only [e1, e2]
          revert hw
          repeat' split
          all_goals first | (intro _; rfl) | (simp only; omega)
      · have e1 : (1 < n') = (1 < n) := propext (by omega)
        unfold Lib.decodeN at hw ⊢
        simp only [e1]
        revert hw
        repeat' split
        all_goals first | (intro _; rfl) | (simp only; omega)
    · unfold Lib.decodeN at hw ⊢
      revert hw
      repeat' split
      all_goals first | (intro _; rfl) | (simp only; omega)

theorem decL_take (l : List UInt8) (m : Nat) (h : l ≠ []) (hm : (decL l).2 ≤ m) : decL (l.take m) = decL l := by
  have hw := decL_width l h
  have hb : ∀ k, k < m → byteAt (l.take m) k = byteAt l k := fun k hk => by
    unfold byteAt
    rw [List.getD_eq_getElem?_getD, List.getD_eq_getElem?_getD, List.getElem?_take_of_lt hk]
  have hlen : (l.take m).length = min m l.length := List.length_take
  have hmin : (decL l).2 ≤ min m l.length := by omega
  have h1m : 1 ≤ min m l.length := by omega
  have e0 := hb 0 (by omega)
  show Lib.decodeN (l.take m).length (byteAt (l.take m) 0) _ _ _ = _
  rw [e0, hlen]
  exact decodeN_less _ _ _ _ _ _ _ _ _ (by omega) h1m (fun _ => hb 1 (by omega)) (fun _ => hb 2 (by omega)) (fun _ => hb 3 (by omega)) hmin

set_option maxRecDepth 100000 in
set_option maxHeartbeats 4000000 in
theorem decL_encode (r : Nat) (hr : r < 55296 ∨ (57344 ≤ r ∧ r ≤ 1114111)) (t : List UInt8) : decL (Lib.encodeRune (r : Int) ++ t) = (r, (Lib.encodeRune (r : Int)).length) := by
  unfold Lib.encodeRune
  by_cases c1 : r ≤ 127
  · rw [Lib.encodeRuneZ_one (by omega) (by omega)]
    have e : ((r : Int).toNat.toUInt8).toNat = r := by simp; omega
    unfold decL Lib.decodeN
    simp only [List.map_cons, List.map_nil, List.cons_append, List.nil_append, byteAt, List.getD_cons_zero, e]
    rw [if_pos (by omega)]; rfl
  · by_cases c2 : r ≤ 2047
    · rw [Lib.encodeRuneZ_two (by omega) (by omega)]
      have e1 : ((192 + (r : Int) / 64).toNat.toUInt8).toNat = 192 + r / 64 := by simp; omega
      have e2 : ((128 + (r : Int) % 64).toNat.toUInt8).toNat = 128 + r % 64 := by simp; omega
      unfold decL Lib.decodeN
      simp only [List.map_cons, List.map_nil, List.cons_append, List.nil_append, byteAt, List.getD_cons_zero, List.getD_cons_succ, e1, e2, List.length_cons]
      rw [if_neg (by omega), if_pos (by omega), if_pos (by omega)]
      exact Prod.ext (by simp only; omega) rfl
    · by_cases c3 : r ≤ 65535
      · rw [Lib.encodeRuneZ_three (by omega)]
        have e1 : ((224 + (r : Int) / 4096).toNat.toUInt8).toNat = 224 + r / 4096 := by simp; omega
        have e2 : ((128 + (r : Int) / 64 % 64).toNat.toUInt8).toNat = 128 + r / 64 % 64 := by simp; omega
        have e3 : ((128 + (r : Int) % 64).toNat.toUInt8).toNat = 128 + r % 64 := by simp; omega
        unfold decL Lib.decodeN
        simp only [List.map_cons, List.map_nil, List.cons_append, List.nil_append, byteAt, List.getD_cons_zero, List.getD_cons_succ, e1, e2, e3, List.length_cons]
        rw [if_neg (by omega), if_neg (by omega), if_pos (by omega), if_pos (by omega)]
        exact Prod.ext (by simp only; omega) rfl
      · rw [Lib.encodeRuneZ_four (by omega) (by omega)]
        have e1 : ((240 + (r : Int) / 262144).toNat.toUInt8).toNat = 240 + r / 262144 := by simp; omega
        have e2 : ((128 + (r : Int) / 4096 % 64).toNat.toUInt8).toNat = 128 + r / 4096 % 64 := by simp; omega
        have e3 : ((128 + (r : Int) / 64 % 64).toNat.toUInt8).toNat = 128 + r / 64 % 64 := by simp; omega
        have e4 : ((128 + (r : Int) % 64).toNat.toUInt8).toNat = 128 + r % 64 := by simp; omega
        unfold decL Lib.decodeN
        simp only [List.map_cons, List.map_nil, List.cons_append, List.nil_append, byteAt, List.getD_cons_zero, List.getD_cons_succ, e1, e2, e3, e4, List.length_cons]
        rw [if_neg (by omega), if_neg (by omega), if_neg (by omega), if_pos (by omega), if_pos (by omega)]
        exact Prod.ext (by simp only; omega) rfl

/-- The runes of some bytes. -/
def runesF : Nat → List UInt8 → List Nat
  | 0, _ => []
  | f + 1, l => if l = [] then [] else (decL l).1 :: runesF f (l.drop (decL l).2)
def runesL (l : List UInt8) : List Nat := runesF l.length l

theorem runesF_fuel : ∀ (f g : Nat) (l : List UInt8), l.length ≤ f → l.length ≤ g → runesF f l = runesF g l
  | 0, g, l, hf, hg => by
    obtain rfl : l = [] := List.eq_nil_of_length_eq_zero (by omega)
    cases g <;> simp [runesF]
  | f + 1, 0, l, hf, hg => by
    obtain rfl : l = [] := List.eq_nil_of_length_eq_zero (by omega)
    simp [runesF]
  | f + 1, g + 1, l, hf, hg => by
    unfold runesF
    by_cases h : l = []
    · rw [if_pos h, if_pos h]
    · rw [if_neg h, if_neg h]
      have hw := decL_width l h
      rw [runesF_fuel f g (l.drop (decL l).2) (by simp; omega) (by simp; omega)]
theorem runesL_nil : runesL [] = [] := rfl
theorem runesL_cons (l : List UInt8) (h : l ≠ []) : runesL l = (decL l).1 :: runesL (l.drop (decL l).2) := by
  have hw := decL_width l h
  unfold runesL
  obtain ⟨n, hn⟩ : ∃ n, l.length = n + 1 := ⟨l.length - 1, by omega⟩
  rw [hn]
  show (if l = [] then [] else (decL l).1 :: runesF n (l.drop (decL l).2)) = _
  rw [if_neg h, runesF_fuel n (l.drop (decL l).2).length _ (by simp; omega) (Nat.le_refl _)]
theorem runesL_le : ∀ (n : Nat) (l : List UInt8), l.length ≤ n → (runesL l).length ≤ l.length
  | 0, l, h => by
    obtain rfl : l = [] := List.eq_nil_of_length_eq_zero (by omega)
    simp [runesL_nil]
  | n + 1, l, h => by
    by_cases hl : l = []
    · subst hl; simp [runesL_nil]
    · have hw := decL_width l hl
      have := runesL_le n (l.drop (decL l).2) (by simp; omega)
      rw [runesL_cons l hl]
      simp at this ⊢
      omega

def okRune (r : Nat) : Prop := r < 55296 ∨ (57344 ≤ r ∧ r ≤ 1114111)
theorem runesL_ok : ∀ (n : Nat) (l : List UInt8), l.length ≤ n → ∀ r ∈ runesL l, okRune r
  | 0, l, h => by
    obtain rfl : l = [] := List.eq_nil_of_length_eq_zero (by omega)
    simp [runesL_nil]
  | n + 1, l, h => by
    by_cases hl : l = []
    · subst hl; simp [runesL_nil]
    · have hw := decL_width l hl
      have := runesL_ok n (l.drop (decL l).2) (by simp; omega)
      rw [runesL_cons l hl]
      intro r hr
      rcases List.mem_cons.1 hr with rfl | hr
      · exact decL_valid l
      · exact this r hr

theorem encode_ne (r : Int) : Lib.encodeRune r ≠ [] := by
  have := (Lib.encodeRuneZ_length r).1
  unfold Lib.encodeRune
  intro h
  rw [List.map_eq_nil_iff] at h
  rw [h] at this
  simp at this
/-- What is encoded reads so again. -/
theorem runesL_encode : ∀ (rs : List Nat), (∀ r ∈ rs, okRune r) → runesL (rs.flatMap fun (r : Nat) => Lib.encodeRune (r : Int)) = rs
  | [], _ => rfl
  | r :: rs, h => by
    have hne := encode_ne (r : Int)
    rw [List.flatMap_cons, runesL_cons _ (by simp [hne]), decL_encode r (h r (by simp))]
    simp only [List.drop_left]
    rw [runesL_encode rs (fun x hx => h x (by simp [hx]))]

/-- The place behind the first n runes. -/
def bndF : Nat → Nat → List UInt8 → Nat
  | 0, _, _ => 0
  | f + 1, n, l => if l = [] ∨ n = 0 then 0 else (decL l).2 + bndF f (n - 1) (l.drop (decL l).2)
def bnd (n : Nat) (l : List UInt8) : Nat := bndF l.length n l
theorem bndF_fuel : ∀ (f g n : Nat) (l : List UInt8), l.length ≤ f → l.length ≤ g → bndF f n l = bndF g n l
  | 0, g, n, l, hf, hg => by
    obtain rfl : l = [] := List.eq_nil_of_length_eq_zero (by omega)
    cases g <;> simp [bndF]
  | f + 1, 0, n, l, hf, hg => by
    obtain rfl : l = [] := List.eq_nil_of_length_eq_zero (by omega)
    simp [bndF]
  | f + 1, g + 1, n, l, hf, hg => by
    unfold bndF
    by_cases h : l = [] ∨ n = 0
    · rw [if_pos h, if_pos h]
    · rw [if_neg h, if_neg h]
      have hw := decL_width l (fun e => h (.inl e))
      rw [bndF_fuel f g (n - 1) (l.drop (decL l).2) (by simp; omega) (by simp; omega)]
theorem bnd_zero (l : List UInt8) : bnd 0 l = 0 := by
  unfold bnd; cases l <;> simp [bndF]
theorem bnd_nil (n : Nat) : bnd n [] = 0 := rfl
theorem bnd_succ (n : Nat) (l : List UInt8) (h : l ≠ []) : bnd (n + 1) l = (decL l).2 + bnd n (l.drop (decL l).2) := by
  have hw := decL_width l h
  unfold bnd
  obtain ⟨m, hm⟩ : ∃ m, l.length = m + 1 := ⟨l.length - 1, by omega⟩
  rw [hm]
  show (if l = [] ∨ n + 1 = 0 then 0 else (decL l).2 + bndF m (n + 1 - 1) (l.drop (decL l).2)) = _
  rw [if_neg (by simp [h]), bndF_fuel m (l.drop (decL l).2).length _ _ (by simp; omega) (Nat.le_refl _), Nat.add_sub_cancel]

theorem bnd_le : ∀ (n : Nat) (l : List UInt8), bnd n l ≤ l.length
  | 0, l => by rw [bnd_zero]; omega
  | n + 1, l => by
    by_cases h : l = []
    · subst h; rw [bnd_nil]; omega
    · have hw := decL_width l h
      have := bnd_le n (l.drop (decL l).2)
      rw [bnd_succ n l h]
      simp at this; omega
theorem runes_drop : ∀ (n : Nat) (l : List UInt8), runesL (l.drop (bnd n l)) = (runesL l).drop n
  | 0, l => by rw [bnd_zero]; simp
  | n + 1, l => by
    by_cases h : l = []
    · subst h; simp [bnd_nil, runesL_nil]
    · rw [bnd_succ n l h, ← List.drop_drop, runes_drop n, runesL_cons l h]; rfl
theorem runes_take : ∀ (n : Nat) (l : List UInt8), runesL (l.take (bnd n l)) = (runesL l).take n
  | 0, l => by rw [bnd_zero]; simp [runesL_nil]
  | n + 1, l => by
    by_cases h : l = []
    · subst h; simp [bnd_nil, runesL_nil]
    · have hw := decL_width l h
      have hd := decL_take l (bnd (n + 1) l) h (by rw [bnd_succ n l h]; omega)
      have hne : l.take (bnd (n + 1) l) ≠ [] := by
        rw [bnd_succ n l h]
        intro e
        have := congrArg List.length e
        rw [List.length_take, List.length_nil] at this
        omega
      rw [runesL_cons _ hne, hd, runesL_cons l h, List.take_succ_cons, bnd_succ n l h, List.drop_take]
      have e : (decL l).2 + bnd n (l.drop (decL l).2) - (decL l).2 = bnd n (l.drop (decL l).2) := by omega
      rw [e, runes_take n]

/-! ### kinds -/
def smallB (r : Int) : Bool := (decide (97 ≤ r) && decide (r ≤ 122)) || (decide (224 ≤ r) && decide (r ≤ 254) && !decide (r = 247)) || (decide (945 ≤ r) && decide (r ≤ 969) && !decide (r = 962)) || (decide (1072 ≤ r) && decide (r ≤ 1103))
def greatB (r : Int) : Bool := (decide (65 ≤ r) && decide (r ≤ 90)) || (decide (192 ≤ r) && decide (r ≤ 222) && !decide (r = 215)) || (decide (913 ≤ r) && decide (r ≤ 937) && !decide (r = 930)) || (decide (1040 ≤ r) && decide (r ≤ 1071))
def kindv (r : Int) : Int := if smallB r = true then 1 else if 48 ≤ r ∧ r ≤ 57 then 2 else if r = 45 ∨ r = 46 then 3 else if greatB r = true then 4 else 0

theorem smallB_iff (r : Int) : smallB r = true ↔ (97 ≤ r ∧ r ≤ 122) ∨ (224 ≤ r ∧ r ≤ 254 ∧ r ≠ 247) ∨ (945 ≤ r ∧ r ≤ 969 ∧ r ≠ 962) ∨ (1072 ≤ r ∧ r ≤ 1103) := by
  simp [smallB]; omega
theorem greatB_iff (r : Int) : greatB r = true ↔ (65 ≤ r ∧ r ≤ 90) ∨ (192 ≤ r ∧ r ≤ 222 ∧ r ≠ 215) ∨ (913 ≤ r ∧ r ≤ 937 ∧ r ≠ 930) ∨ (1040 ≤ r ∧ r ≤ 1071) := by
  simp [greatB]; omega
theorem great_small (r : Int) : greatB r = true ↔ 65 ≤ r ∧ smallB (r + 32) = true := by
  rw [greatB_iff, smallB_iff]; omega

def foldr1 (r : Nat) : Nat := if kindv r = 4 then r + 32 else r
theorem kind4 (r : Int) : kindv r = 4 ↔ greatB r = true := by
  have h1 := smallB_iff r
  have h2 := greatB_iff r
  unfold kindv
  by_cases hs : smallB r = true
  · rw [if_pos hs]
    have := h1.1 hs
    exact ⟨fun h => by omega, fun h => by have := h2.1 h; omega⟩
  · rw [if_neg hs]
    by_cases hd : 48 ≤ r ∧ r ≤ 57
    · rw [if_pos hd]
      exact ⟨fun h => by omega, fun h => by have := h2.1 h; omega⟩
    · rw [if_neg hd]
      by_cases hp : r = 45 ∨ r = 46
      · rw [if_pos hp]
        exact ⟨fun h => by omega, fun h => by have := h2.1 h; omega⟩
      · rw [if_neg hp]
        by_cases hg : greatB r = true
        · rw [if_pos hg]; exact ⟨fun _ => hg, fun _ => rfl⟩
        · rw [if_neg hg]; exact ⟨fun h => by omega, fun h => absurd h hg⟩
theorem fold_ok (r : Nat) (h : okRune r) : okRune (foldr1 r) := by
  unfold foldr1
  split
  · rename_i h4
    rw [kind4, greatB_iff] at h4
    unfold okRune at *; omega
  · exact h
theorem fold_kind (r : Nat) : kindv (foldr1 r) ≠ 4 := by
  unfold foldr1
  split
  · rename_i h4
    rw [kind4, greatB_iff] at h4
    rw [Ne, kind4, greatB_iff]; omega
  · assumption
theorem fold_fold (r : Nat) : foldr1 (foldr1 r) = foldr1 r := by
  have := fold_kind r
  rw [foldr1, if_neg this]

/-- A text folded. -/
def foldL (l : List UInt8) : List UInt8 := (runesL l).flatMap fun r => Lib.encodeRune ((foldr1 r : Nat) : Int)
theorem runes_fold (l : List UInt8) : runesL (foldL l) = (runesL l).map foldr1 := by
  have h := runesL_ok _ l (Nat.le_refl _)
  have e : foldL l = ((runesL l).map foldr1).flatMap fun (r : Nat) => Lib.encodeRune (r : Int) := by
    unfold foldL; rw [List.flatMap_map]
  rw [e, runesL_encode]
  intro r hr
  obtain ⟨x, hx, rfl⟩ := List.mem_map.1 hr
  exact fold_ok x (h x hx)
theorem foldL_idem (l : List UInt8) : foldL (foldL l) = foldL l := by
  show (runesL (foldL l)).flatMap _ = _
  rw [runes_fold, List.flatMap_map]
  unfold foldL
  congr 1
  funext r
  rw [fold_fold]
theorem foldL_le (l : List UInt8) : (foldL l).length ≤ 4 * l.length := by
  have h := runesL_le _ l (Nat.le_refl _)
  have : ∀ rs : List Nat, (rs.flatMap fun r => Lib.encodeRune ((foldr1 r : Nat) : Int)).length ≤ 4 * rs.length := by
    intro rs
    induction rs with
    | nil => simp
    | cons r rs ih =>
      have h4 : (Lib.encodeRune ((foldr1 r : Nat) : Int)).length ≤ 4 := by unfold Lib.encodeRune; rw [List.length_map]; exact (Lib.encodeRuneZ_length _).2
      rw [List.flatMap_cons, List.length_append, List.length_cons]
      omega
  have := this (runesL l)
  unfold foldL
  omega

def goodB (r : Nat) : Bool := decide (1 ≤ kindv r) && decide (kindv r ≤ 3)
def nameB (l : List UInt8) : Bool := (runesL l).all goodB && decide (1 ≤ (runesL l).length) && decide ((runesL l).length ≤ 16)
theorem good_small (r : Nat) (h : goodB r = true) : r ≤ 2047 ∧ kindv r ≠ 4 := by
  simp [goodB] at h
  refine ⟨?_, by omega⟩
  have h1 := smallB_iff r
  have h2 := greatB_iff r
  obtain ⟨ha, hb⟩ := h
  unfold kindv at ha
  by_cases hs : smallB r = true
  · have := h1.1 hs; omega
  · rw [if_neg hs] at ha
    by_cases hd : 48 ≤ (r : Int) ∧ (r : Int) ≤ 57
    · omega
    · rw [if_neg hd] at ha
      by_cases hp : (r : Int) = 45 ∨ (r : Int) = 46
      · omega
      · rw [if_neg hp] at ha
        by_cases hg : greatB r = true
        · have := h2.1 hg; omega
        · rw [if_neg hg] at ha; omega
theorem good_bytes : ∀ (n : Nat) (l : List UInt8), l.length ≤ n → (runesL l).all goodB = true → foldL l = l ∧ l.length ≤ 2 * (runesL l).length
  | 0, l, h, _ => by
    obtain rfl : l = [] := List.eq_nil_of_length_eq_zero (by omega)
    exact ⟨rfl, by simp⟩
  | n + 1, l, h, hg => by
    by_cases hl : l = []
    · subst hl; exact ⟨rfl, by simp⟩
    · have hw := decL_width l hl
      have hc := runesL_cons l hl
      rw [hc, List.all_cons, Bool.and_eq_true] at hg
      have hs := good_small _ hg.1
      have hd := decL_small l hl hs.1
      have ih := good_bytes n (l.drop (decL l).2) (by simp; omega) hg.2
      constructor
      · unfold foldL
        rw [hc, List.flatMap_cons, show foldr1 (decL l).1 = (decL l).1 from if_neg hs.2, hd.1]
        have := ih.1
        unfold foldL at this
        rw [this, List.take_append_drop]
      · rw [hc, List.length_cons]
        have := ih.2
        simp at this
        omega
theorem name_fold (l : List UInt8) (h : nameB l = true) : foldL l = l := by
  unfold nameB at h
  simp only [Bool.and_eq_true] at h
  exact (good_bytes _ l (Nat.le_refl _) h.1.1).1
theorem name_le (l : List UInt8) (h : nameB l = true) : l.length ≤ 32 := by
  unfold nameB at h
  simp only [Bool.and_eq_true, decide_eq_true_eq] at h
  have := (good_bytes _ l (Nat.le_refl _) h.1.1).2
  omega

end Go.Proofs.Ytogajmbkjojdhaa
