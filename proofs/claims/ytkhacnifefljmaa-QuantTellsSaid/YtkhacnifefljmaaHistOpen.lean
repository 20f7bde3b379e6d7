/- A histogram that came in: what its value is. -/
import Derived.Test.YtkhacnifefljmaaHistOrder
import Derived.OpenShut
import Derived.ProofKit
set_option linter.unusedVariables false
namespace Go.Proofs.Ytkhacnifefljmaa
open Go.ChangeShapes Go.WideShapes Go.ChangeAt Go.RowKit

theorem cells3 : Try.prog.cellsOf 3 = 1 := by kernel_rfl
theorem cellsH : Try.prog.cellsOf 28 = 16 := by kernel_rfl

theorem hist_cells {H : Type} {enc : TypeId × Value → H} {W : World} {base fuel : Nat} {spare : Nat → Bool} {held : Bool} {cs : List Value} {x : DataW H × List MemPlace}
    (h : DataW.trod enc Try.prog W base spare held fuel 28 cs = some x) : ∃ hs : List Int, hs.length = 16 ∧ cs = hs.map (Value.int .i64) ∧ ∀ n ∈ hs, -9223372036854775808 ≤ n ∧ n ≤ 9223372036854775807 := by
  obtain ⟨xs, m, -, -, hl, hxl, hx⟩ := DataW.trod_array histU h
  rw [cellsH] at hl
  have hcell : ∀ i, i < 16 → ∃ n, cs[i]? = some (.int .i64 n) ∧ (Lit.int .i64 n).wf = true := by
    intro i hi
    have h1 := hx i hi
    rw [cells3, List.getElem?_eq_getElem (by omega)] at h1
    obtain ⟨n, hn, -, hwf⟩ := DataW.trod_int Try.underlying3 h1
    refine ⟨n, ?_, hwf⟩
    have : (List.take 1 (List.drop (i * 1) cs))[0]? = some (.int .i64 n) := by rw [hn]; rfl
    simpa using this
  refine ⟨(List.range 16).map (fun i => (cs[i]?.map intOf).getD 0), by simp, ?_, ?_⟩
  · apply List.ext_getElem?
    intro i
    by_cases hi : i < 16
    · obtain ⟨n, hn, -⟩ := hcell i hi
      simp [hi, hn, intOf]
    · rw [List.getElem?_eq_none (by omega), List.getElem?_eq_none (by simp; omega)]
  · intro n hn
    obtain ⟨i, hi, rfl⟩ := List.mem_map.1 hn
    obtain ⟨n, hn, hwf⟩ := hcell i (List.mem_range.1 hi)
    simp only [hn, Option.map_some, Option.getD_some, intOf]
    exact bounds_i64 hwf

theorem openHist {H : Type} {enc : TypeId × Value → H} {W : World} {b0 base : Nat} {r : Reach} {spare : Nat → Bool} {held : Bool} {v : Value} {d : DataW H} {p : List MemPlace}
    (hv : Value.okWide Try.prog W r b0 28 v) (h : DataW.Trod enc Try.prog W base spare held 28 v d p) :
    ∃ hs : List Int, v = .agg (hcells hs) ∧ hs.length = 16 ∧ ∀ n ∈ hs, -9223372036854775808 ≤ n ∧ n ≤ 9223372036854775807 := by
  simp only [Value.okWide, histU] at hv
  obtain ⟨cs, rfl, hsz, -⟩ := hv
  obtain ⟨fuel, hf⟩ := h
  obtain ⟨hs, hl, hcs, hb⟩ := hist_cells hf
  refine ⟨hs, ?_, hl, hb⟩
  simp only [Value.cells] at hcs
  rw [hcells, ← hcs]

theorem cells22 : Try.prog.cellsOf 22 = 1 := by kernel_rfl
theorem openU64s {H : Type} {enc : TypeId × Value → H} {W : World} {b0 base : Nat} {r : Reach} {spare : Nat → Bool} {held : Bool} {v : Value} {d : DataW H} {p : List MemPlace}
    (hv : Value.okWide Try.prog W r b0 33 v) (h : DataW.Trod enc Try.prog W base spare held 33 v d p) :
    ∃ zs : List Nat, (∀ n ∈ zs, n < 18446744073709551616) ∧ IsNums .u64 W v (zs.map Int.ofNat) := by
  obtain ⟨a0, len0, cap0, rfl⟩ := okWide_slice Try.underlying33 hv
  obtain ⟨fuel, hf⟩ := h
  rcases open_ints Try.underlying33 Try.underlying22 cells22 hf with ⟨hcs, _⟩ | ⟨x, l, c, zs, hcs, _, hl, hm, hz, _, hcell, hwz⟩
  · simp [Value.cells] at hcs
    obtain ⟨rfl, rfl, rfl⟩ := hcs
    exact ⟨[], by simp, none, 0, rfl, by simp, by simp⟩
  · simp [Value.cells] at hcs
    obtain ⟨rfl, rfl, rfl⟩ := hcs
    have hlz : len0 ≤ zs.length := by
      rw [hz]; split <;> omega
    have hpos : ∀ n ∈ zs, 0 ≤ n ∧ n ≤ 18446744073709551615 := fun n hn => bounds_u64 (hwz n hn)
    have hmm : ((zs.take len0).map Int.toNat).map Int.ofNat = zs.take len0 := by
      rw [List.map_map]
      have : (zs.take len0).map (Int.ofNat ∘ Int.toNat) = (zs.take len0).map id := by
        apply List.map_congr_left
        intro n hn
        have := hpos n (List.mem_of_mem_take hn)
        simp only [Function.comp, id]
        exact Int.toNat_of_nonneg this.1
      rw [this, List.map_id]
    refine ⟨(zs.take len0).map Int.toNat, ?_, ?_⟩
    · intro n hn
      obtain ⟨m, hm', rfl⟩ := List.mem_map.1 hn
      have := hpos m (List.mem_of_mem_take hm')
      omega
    · rw [hmm]
      refine ⟨some x, cap0, by rw [List.length_take, Nat.min_eq_left hlz], by rw [List.length_take]; omega, fun i hi => ?_⟩
      rw [List.length_take] at hi
      have h1 := hcell i (by omega)
      obtain ⟨b, off, spot⟩ := x
      have hspot : spot = none := by
        have h0 := hcell 0 (by omega)
        simpa [Addr.add] using World.cell?_spot h0
      subst hspot
      refine ⟨b, off, rfl, ?_⟩
      have hadd : (⟨b, off, none⟩ : Addr).add i = ⟨b, off + i, none⟩ := Addr.add_mid b off i
      rw [hadd] at h1
      rw [h1]
      simp [List.getD, show i < len0 by omega]

theorem histAdds_of (hs : List Int) (hl : hs.length = 16) (a1 : Int) (W : World) (w1 : (Lit.int .u64 a1).wf = true) :
    Calls Try.prog 4 #[.agg (hcells hs), .int .u64 a1] W fun e w' => e = .returned (.bool true) ∧ Below W.heap.size W w' := by
  have b1 := bounds_u64 w1
  exact histAdds_walk hs hl a1 W b1.1 b1.2
end Go.Proofs.Ytkhacnifefljmaa
