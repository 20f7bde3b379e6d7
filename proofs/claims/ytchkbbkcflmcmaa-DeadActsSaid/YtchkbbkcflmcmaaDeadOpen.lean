/- Letters that came in: what the values are. -/
import Derived.Test.YtchkbbkcflmcmaaDeadLoads
import Derived.OpenShut
import Derived.Deep.Slices
import Derived.ProofKit
set_option linter.unusedVariables false
namespace Go.Proofs.Ytchkbbkcflmcmaa
open Go.ChangeShapes Go.WideShapes Go.ChangeAt Go.RowKit Go.Deep

theorem cells3 : Try.prog.cellsOf 3 = 1 := by kernel_rfl
theorem cells9 : Try.prog.cellsOf 9 = 1 := by kernel_rfl
theorem cells27 : Try.prog.cellsOf 27 = 1 := by kernel_rfl
theorem cells29 : Try.prog.cellsOf 29 = 6 := by kernel_rfl

theorem let_cells {H : Type} {enc : TypeId × Value → H} {W : World} {base fuel : Nat} {spare : Nat → Bool} {held : Bool} {cs : List Value} {x : DataW H × List MemPlace} (hl6 : cs.length = 6)
    (h : DataW.trod enc Try.prog W base spare held fuel 29 cs = some x) : ∃ y : Let, cs = y.cells := by
  obtain ⟨ys, m, _, rfl, _, hl, hf⟩ := DataW.trod_struct Try.underlying29 h
  match cs, hl6 with
  | [a, b, c, d, e, f], _ =>
  match ys, hl with
  | [y0, y1, y2, y3, y4, y5], _ =>
  have hy0 := hf 0 _ rfl
  have hy1 := hf 1 _ rfl
  have hy2 := hf 2 _ rfl
  have hy3 := hf 3 _ rfl
  have hy4 := hf 4 _ rfl
  have hy5 := hf 5 _ rfl
  simp [cells3] at hy0 hy1 hy2 hy3
  simp [cells9] at hy4
  simp [cells27] at hy5
  obtain ⟨A, eA, -, -⟩ := DataW.trod_int Try.underlying3 hy0
  obtain ⟨B, eB, -, -⟩ := DataW.trod_int Try.underlying3 hy1
  obtain ⟨C, eC, -, -⟩ := DataW.trod_int Try.underlying3 hy2
  obtain ⟨D, eD, -, -⟩ := DataW.trod_int Try.underlying3 hy3
  obtain ⟨E, eE, -, -⟩ := DataW.trod_string Try.underlying9 hy4
  obtain ⟨F, eF, -, -⟩ := DataW.trod_int Try.underlying27 hy5
  simp at eA eB eC eD eE eF
  exact ⟨⟨A, B, C, D, E, F⟩, by rw [eA, eB, eC, eD, eE, eF]; rfl⟩


theorem openLet {H : Type} {enc : TypeId × Value → H} {W : World} {b0 base : Nat} {r : Reach} {spare : Nat → Bool} {held : Bool} {v : Value} {d : DataW H} {p : List MemPlace}
    (hv : Value.okWide Try.prog W r b0 29 v) (h : DataW.Trod enc Try.prog W base spare held 29 v d p) : ∃ y : Let, v = .agg y.cells.toArray := by
  obtain ⟨cs, rfl, hsz⟩ := okWide_struct Try.underlying29 hv
  obtain ⟨fuel, hf⟩ := h
  rw [cells29] at hsz
  obtain ⟨y, hcs⟩ := let_cells (by simpa [Value.cells] using hsz) hf
  simp only [Value.cells] at hcs
  exact ⟨y, by rw [← hcs]⟩

theorem openLets {H : Type} {enc : TypeId × Value → H} {W : World} {b0 base : Nat} {r : Reach} {spare : Nat → Bool} {held : Bool} {v : Value} {d : DataW H} {p : List MemPlace}
    (hv : Value.okWide Try.prog W r b0 26 v) (h : DataW.Trod enc Try.prog W base spare held 26 v d p) : ∃ L : List Let, Lts W v L := by
  obtain ⟨a0, len0, cap0, rfl⟩ := okWide_slice Try.underlying26 hv
  obtain ⟨fuel, hf⟩ := h
  rcases open_slice Try.underlying26 hf with ⟨hcs, _⟩ | ⟨a, len, cap, m, n, D, Pl, hcs, hb, hl, hm, hmm, hx, hi⟩
  · simp [Value.cells] at hcs
    obtain ⟨rfl, rfl, rfl⟩ := hcs
    exact ⟨[], .inl ⟨rfl, none, 0, rfl⟩⟩
  · simp [Value.cells] at hcs
    obtain ⟨rfl, rfl, rfl⟩ := hcs
    rw [cells29] at hi
    have hlm : len0 ≤ m := by rw [hmm]; split <;> omega
    have hy : ∀ i, i < len0 → ∃ y : Let, ∀ j u, y.cells[j]? = some u → W.cell? ((a.add (i * 6)).add j) = some u := by
      intro i hil
      obtain ⟨cs', hc, ht'⟩ := hi i (by omega)
      obtain ⟨_, hcl, hat⟩ := World.cells?_some hc
      obtain ⟨y, rfl⟩ := let_cells hcl ht'
      exact ⟨y, fun j u hu => by rw [hat j (List.getElem?_eq_some_iff.1 hu).1, hu]⟩
    by_cases h0 : len0 = 0
    · subst h0; exact ⟨[], .inl ⟨rfl, _, _, rfl⟩⟩
    · have hs : a.spot = none := by
        obtain ⟨y, h1⟩ := hy 0 (by omega)
        have h2 := h1 0 _ rfl
        simpa [Addr.add] using World.cell?_spot h2
      obtain ⟨b, off, sp⟩ := a
      simp only at hs
      subst hs
      let f : Nat → Let := fun i => if h : i < len0 then Classical.choose (hy i h) else zeroLet
      refine ⟨(List.range len0).map f, .inr ⟨b, off, cap0, by simp, fun i y hiy => ?_⟩⟩
      have hil : i < len0 := by have := (List.getElem?_eq_some_iff.1 hiy).1; simpa using this
      have hfy : f i = y := by simpa [hil] using hiy
      have hf2 : f i = Classical.choose (hy i hil) := dif_pos hil
      intro j u hu
      rw [← hfy, hf2] at hu
      have := Classical.choose_spec (hy i hil) j u hu
      rwa [Addr.add_mid, Addr.add_mid] at this


theorem deadLoads_of (room : Int) (v : Value) (L : List Let) (x : Let) (w : World) (hv : Lts w v L) :
    Calls Try.prog 4 #[.int .i64 room, v, .agg x.cells.toArray] w fun e w' => e = .returned (.bool true) ∧ Below w.heap.size w w' := by
  by_cases h1 : 60 < L.length ∨ 1024 < room
  · exact deadLoads_far w room v L hv x h1
  · by_cases h2 : room < 1 ∨ room < L.length
    · exact deadLoads_no w room v L hv x (by omega) (by omega) h2
    · obtain ⟨n, rfl⟩ := Int.eq_ofNat_of_zero_le (show 0 ≤ room by omega)
      exact deadLoads_yes w n v L hv x (by omega) (by omega) (by omega) (by omega)

end Go.Proofs.Ytchkbbkcflmcmaa
