/- A map as a function of its keys is a map that the kit's iterators go through. -/
import Derived.Test.YtogajmbkjojdhaaInvLaw
import Derived.Lib.SlKeysI
import Derived.Maps.RangeWalk
import Derived.Maps.OwnSet
set_option linter.unusedVariables false
set_option linter.unusedSimpArgs false
set_option maxRecDepth 100000
namespace Go.Proofs.Ytogajmbkjojdhaa
open Go.RowKit

def readR (v : Value) : Option (DataW Value × List MemPlace) := some (.held v, [])
theorem keyInt {n : Int} (h : (Lit.int .i64 n).wf = true) : keyOf Try.prog 3 (.int .i64 n) = some (.int .i64 n) := by
  have hu := Try.underlying3
  simp [keyOf, mapKey, hu, h]
theorem wfI {n : Int} (h : -9223372036854775808 ≤ n ∧ n ≤ 9223372036854775807) : (Lit.int .i64 n).wf = true := by
  have h1 : IntKind.i64.min = -9223372036854775808 := by decide
  have h2 : IntKind.i64.max = 9223372036854775807 := by decide
  simp [Lit.wf, h1, h2, h]
/-- What the kit's relation says of it. -/
structure OwnsI (w : World) (b : Nat) (f : Int → Option Value) (n : Nat) (D : DataW Value) : Prop where
  own : w.ownsMap Try.prog 3 readR b n D
  size : Maps.size D = n
  nod : (intKeys D).Nodup
  mem : ∀ x, x ∈ intKeys D ↔ (f x).isSome = true
  val : ∀ x v, (∀ zd, D.atKey (.int .i64 x) zd = .held v) → f x = some v
theorem MapS.ownsI {w : World} {b n : Nat} {f : Int → Option Value} (h : MapS (intK 3) w b f n) (hn : n ≤ maxLen) (hw : ∀ k, (f k).isSome = true → (Lit.int .i64 k).wf = true) : ∃ D, OwnsI w b f n D := by
  obtain ⟨es, clock, M, hh, h1, h2, h3, h4, h5⟩ := h
  have hkw : ∀ p ∈ M, (Lit.int .i64 p.1).wf = true := fun p hp => hw p.1 (by rw [← h3]; exact (mem_keys M p.1).1 (List.mem_map_of_mem hp))
  have hlen : es.toList.length = M.length := by have := congrArg List.length h1; simpa using this
  have hrg : es.toList.map (WideElems.rg Try.prog 3 readR) = M.map fun p => (Lit.int .i64 p.1, DataW.held p.2) := by
    apply List.ext_getElem?
    intro j
    rw [List.getElem?_map, List.getElem?_map]
    have hj := congrArg (fun l => l[j]?) h1
    simp only [List.getElem?_map] at hj
    cases he : es.toList[j]? with
    | none =>
      rw [he] at hj
      cases hm : M[j]? with
      | none => rfl
      | some p => rw [hm] at hj; cases hj
    | some e =>
      rw [he] at hj
      cases hm : M[j]? with
      | none => rw [hm] at hj; cases hj
      | some p =>
        rw [hm] at hj
        simp only [Option.map_some, Option.some.injEq, Prod.mk.injEq] at hj ⊢
        have hk := keyInt (hkw p (List.mem_of_getElem? hm))
        have hek : e.key = .int .i64 p.1 := hj.1
        simp [WideElems.rg, WideElems.rd, hek, hk, readR, hj.2]
  have hF : WideElems.Fit Try.prog 3 readR es clock := by
    refine ⟨by have : es.size = n := by (rw [← h4]; simpa using hlen); 
               omega, ⟨h5.2, h5.1, ?_⟩, fun x hx => ?_⟩
    · have : es.toList.map (·.key) = M.map fun p => Value.int .i64 p.1 := by
        have := congrArg (List.map Prod.fst) h1
        rw [List.map_map, List.map_map] at this
        exact this
      rw [this]
      have h6 : (M.map fun p => Value.int .i64 p.1) = (M.map (·.1)).map (Value.int .i64) := by rw [List.map_map]; rfl
      rw [h6]
      exact List.pairwise_map.2 (h2.imp fun hne e => hne (by cases e; rfl))
    · obtain ⟨j, hj, rfl⟩ := List.mem_iff_getElem.1 hx
      have hm : M[j]? = some M[j] := List.getElem?_eq_getElem (by omega)
      have hj2 := congrArg (fun l => l[j]?) h1
      simp only [List.getElem?_map, List.getElem?_eq_getElem hj, hm, Option.map_some, Option.some.injEq, Prod.mk.injEq] at hj2
      have hk := keyInt (hkw _ (List.mem_of_getElem? hm))
      have hek : (es.toList[j]).key = .int .i64 (M[j]).1 := hj2.1
      exact ⟨(.int .i64 (M[j]).1, .held (es.toList[j]).val), by unfold WideElems.rd; rw [hek, hk]; rfl⟩
  have hsz : es.size = n := by rw [← h4]; simpa using hlen
  have hown : w.ownsMap Try.prog 3 readR b n (.map ((es.toList.map (WideElems.rg Try.prog 3 readR)).foldr DataW.insert [])) := ⟨es, clock, hh, hF, by omega, rfl⟩
  have hp := WideShapes.sorted_perm (M.map fun p => (Lit.int .i64 p.1, DataW.held p.2))
  rw [hrg] at hown
  have hk0 : (intKeys (DataW.map ((M.map fun p => (Lit.int .i64 p.1, DataW.held p.2)).foldr DataW.insert []))).Perm (M.map (·.1)) := by
    have := hp.map (fun p : Lit × DataW Value => Go.intOf p.1)
    rw [List.map_map] at this
    exact this
  refine ⟨_, hown, ?_, hk0.nodup_iff.2 h2, fun x => ?_, fun x v hv => ?_⟩
  · show (List.foldr DataW.insert [] _).length = n
    rw [hp.length_eq, List.length_map, h4]
  · rw [hk0.mem_iff, mem_keys, h3]
  · have hhas := Maps.has_true_of_atKey hv
    rw [Maps.has_eq, List.any_eq_true] at hhas
    obtain ⟨p, hpm, hpk⟩ := hhas
    obtain ⟨q, hq, rfl⟩ := List.mem_map.1 (hp.mem_iff.1 hpm)
    have hqx : q.1 = x := by simpa [Lit.sameKey] using hpk
    have hval : DataW.held q.2 = DataW.held v := by
      have h7 := hv .nil
      have hfind : ((M.map fun p => (Lit.int .i64 p.1, DataW.held (H := Value) p.2)).foldr DataW.insert []).find? (fun p => p.1.sameKey (.int .i64 x)) = some (Lit.int .i64 q.1, DataW.held q.2) := by
        cases hf : ((M.map fun p => (Lit.int .i64 p.1, DataW.held (H := Value) p.2)).foldr DataW.insert []).find? (fun p => p.1.sameKey (.int .i64 x)) with
        | none => exact absurd hpk (by have := List.find?_eq_none.1 hf _ hpm; simpa using this)
        | some r =>
          have hrm := hp.mem_iff.1 (List.mem_of_find?_eq_some hf)
          obtain ⟨s, hs, rfl⟩ := List.mem_map.1 hrm
          have hsk : s.1 = x := by have := List.find?_some hf; simpa [Lit.sameKey] using this
          have hse : s = q := by
            obtain ⟨i, hi, rfl⟩ := List.mem_iff_getElem.1 hs
            obtain ⟨j, hj, rfl⟩ := List.mem_iff_getElem.1 hq
            have hpw := List.pairwise_iff_getElem.1 (List.pairwise_map.1 h2)
            rcases Nat.lt_trichotomy i j with h9 | rfl | h9
            · exact absurd (hsk.trans hqx.symm) (hpw i j hi hj h9)
            · rfl
            · exact absurd (hqx.trans hsk.symm) (hpw j i hj hi h9)
          rw [hse]
      simp only [DataW.atKey] at h7
      rw [hfind] at h7
      exact h7
    have hv2 : q.2 = v := by simpa using hval
    rw [← h3, ← hqx, ← hv2]
    obtain ⟨j, hj, rfl⟩ := List.mem_iff_getElem.1 hq
    have hl : (lookL M (M[j]).1).isSome = true := (mem_keys M _).1 (List.mem_map_of_mem hq)
    unfold lookL at hl ⊢
    cases hm : firstAt (M[j]).1 M 0 with
    | none => rw [hm] at hl; cases hl
    | some z =>
      obtain ⟨-, hzl, hzat⟩ := firstAt_lt _ M 0 _ hm
      simp only [Nat.sub_zero, Nat.zero_add] at hzl hzat
      have hz := (List.getElem?_eq_some_iff.1 hzat).2
      have hjz : z.1 = j := by
        have hpw := List.pairwise_iff_getElem.1 (List.pairwise_map.1 h2)
        rcases Nat.lt_trichotomy z.1 j with h9 | h9 | h9
        · exact absurd (by rw [hz]) (hpw z.1 j hzl hj h9)
        · exact h9
        · exact absurd (by rw [hz]) (hpw j z.1 hj hzl h9)
      subst hjz
      show some z.2 = some (M[z.1]).2
      rw [hz]
end Go.Proofs.Ytogajmbkjojdhaa
