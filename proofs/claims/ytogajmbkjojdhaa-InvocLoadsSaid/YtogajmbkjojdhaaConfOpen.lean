/- A configuration that came in: what the value is. -/
import Derived.Test.YtogajmbkjojdhaaConfLaw
import Derived.OpenShut
import Derived.Deep.Slices
import Derived.ProofKit
set_option linter.unusedVariables false
set_option maxRecDepth 100000
namespace Go.Proofs.Ytogajmbkjojdhaa
open Go.ChangeShapes Go.WideShapes Go.ChangeAt Go.RowKit Go.Deep

/-- A slice's cells that came in, each element with a property. -/
theorem openRecsP {α : Type} {R : Rec α} (k : R.Ok) (Pr : α → Prop) (hcells : Try.prog.cellsOf R.ty = R.n)
    {H : Type} {enc : TypeId × Value → H} {W : World} {base : Nat} {spare : Nat → Bool} {held : Bool}
    (hopen : ∀ {fuel : Nat} {cs : List Value} {x : DataW H × List MemPlace}, cs.length = R.n → DataW.trod enc Try.prog W base spare held fuel R.ty cs = some x → ∃ y : α, cs = R.cells y ∧ Pr y)
    {fuel : Nat} {cs : List Value} {x : DataW H × List MemPlace}
    (hf : DataW.trod enc Try.prog W base spare held fuel R.st cs = some x) : ∃ (v : Value) (L : List α), cs = [v] ∧ Reads R W v L ∧ ∀ y ∈ L, Pr y := by
  rcases open_slice k.slice hf with ⟨rfl, _⟩ | ⟨a, len, cap, m, n, D, Pl, rfl, hb, hl, hm, hmm, hx, hi⟩
  · exact ⟨_, [], rfl, .inl ⟨rfl, none, 0, rfl⟩, by simp⟩
  · rw [hcells] at hi
    have hlm : len ≤ m := by rw [hmm]; split <;> omega
    have hy : ∀ i, i < len → ∃ y : α, Pr y ∧ ∀ j u, (R.cells y)[j]? = some u → W.cell? ((a.add (i * R.n)).add j) = some u := by
      intro i hil
      obtain ⟨cs', hc, ht'⟩ := hi i (by omega)
      obtain ⟨_, hcl, hat⟩ := World.cells?_some hc
      obtain ⟨y, rfl, hp⟩ := hopen hcl ht'
      exact ⟨y, hp, fun j u hu => by rw [hat j (by rw [← hcl]; exact (List.getElem?_eq_some_iff.1 hu).1), hu]⟩
    by_cases h0 : len = 0
    · subst h0; exact ⟨_, [], rfl, .inl ⟨rfl, _, _, rfl⟩, by simp⟩
    · have hs : a.spot = none := by
        obtain ⟨y, _, h1⟩ := hy 0 (by omega)
        obtain ⟨u, hu⟩ : ∃ u, (R.cells y)[0]? = some u := ⟨_, List.getElem?_eq_getElem (by rw [k.length]; exact k.pos)⟩
        have h2 := h1 0 u hu
        simpa [Addr.add] using World.cell?_spot h2
      obtain ⟨b, off, sp⟩ := a
      simp only at hs
      subst hs
      let f : Nat → α := fun i => if h : i < len then Classical.choose (hy i h) else R.zero
      refine ⟨_, (List.range len).map f, rfl, .inr ⟨b, off, cap, by simp, fun i y hiy => ?_⟩, ?_⟩
      · have hil : i < len := by have := (List.getElem?_eq_some_iff.1 hiy).1; simpa using this
        have hfy : f i = y := by simpa [hil] using hiy
        have hf2 : f i = Classical.choose (hy i hil) := dif_pos hil
        intro j u hu
        rw [← hfy, hf2] at hu
        have := (Classical.choose_spec (hy i hil)).2 j u hu
        rwa [Addr.add_mid, Addr.add_mid] at this
      · intro y hyin
        obtain ⟨i, hir, hfi⟩ := List.mem_map.1 hyin
        have hil : i < len := by simpa using hir
        have hf2 : f i = Classical.choose (hy i hil) := dif_pos hil
        rw [← hfi, hf2]
        exact (Classical.choose_spec (hy i hil)).1

theorem cellsI : Try.prog.cellsOf 3 = 1 := by kernel_rfl
theorem cellsS : Try.prog.cellsOf 9 = 1 := by kernel_rfl
theorem cellsT : Try.prog.cellsOf 46 = 3 := by kernel_rfl
theorem cellsTs : Try.prog.cellsOf 22 = 1 := by kernel_rfl
theorem cellsIs : Try.prog.cellsOf 23 = 1 := by kernel_rfl
theorem cellsC : Try.prog.cellsOf 25 = 19 := by kernel_rfl

theorem ten_cells {H : Type} {enc : TypeId × Value → H} {W : World} {base fuel : Nat} {spare : Nat → Bool} {held : Bool} {cs : List Value} {x : DataW H × List MemPlace} (hl : cs.length = 3)
    (h : DataW.trod enc Try.prog W base spare held fuel 46 cs = some x) : ∃ y : Ten, cs = tenR.cells y ∧ y.name.size ≤ 9223372036854775807 := by
  obtain ⟨ys, m, _, rfl, _, hl2, hf⟩ := DataW.trod_struct Try.underlying46 h
  match cs, hl with
  | [a, b, c], _ =>
  match ys, hl2 with
  | [y0, y1, y2], _ =>
  have hy0 := hf 0 _ rfl
  have hy1 := hf 1 _ rfl
  have hy2 := hf 2 _ rfl
  simp [cellsI, cellsS] at hy0 hy1 hy2
  obtain ⟨E, eE, -, hE⟩ := DataW.trod_string Try.underlying9 hy0
  obtain ⟨A, eA, -, -⟩ := DataW.trod_int Try.underlying3 hy1
  obtain ⟨B, eB, -, -⟩ := DataW.trod_int Try.underlying3 hy2
  simp at eA eB eE
  exact ⟨⟨E, A, B⟩, by rw [eA, eB, eE]; rfl, hE⟩
theorem int_cells {H : Type} {enc : TypeId × Value → H} {W : World} {base fuel : Nat} {spare : Nat → Bool} {held : Bool} {cs : List Value} {x : DataW H × List MemPlace} (hl : cs.length = 1)
    (h : DataW.trod enc Try.prog W base spare held fuel 3 cs = some x) : ∃ y : Int, cs = intR.cells y ∧ True := by
  obtain ⟨A, eA, -, -⟩ := DataW.trod_int Try.underlying3 h
  exact ⟨A, by rw [eA]; rfl, trivial⟩

set_option maxHeartbeats 2000000 in
theorem cfg_cells {H : Type} {enc : TypeId × Value → H} {W : World} {base fuel : Nat} {spare : Nat → Bool} {held : Bool} {cs : List Value} {x : DataW H × List MemPlace} (hl : cs.length = 19)
    (h : DataW.trod enc Try.prog W base spare held fuel 25 cs = some x) : ∃ c : Cfg, cs = c.cells ∧ c.In W := by
  obtain ⟨ys, m, _, rfl, _, hl2, hf⟩ := DataW.trod_struct Try.underlying25 h
  match cs, hl with
  | [c0, c1, c2, c3, c4, c5, c6, c7, c8, c9, c10, c11, c12, c13, c14, c15, c16, c17, c18], _ =>
  match ys, hl2 with
  | [y0, y1, y2, y3, y4, y5, y6, y7, y8, y9, y10, y11, y12, y13, y14, y15, y16, y17, y18], _ =>
  have hy0 := hf 0 _ rfl
  have hy1 := hf 1 _ rfl
  simp [cellsTs, cellsIs] at hy0 hy1
  have hy2 := hf 2 _ rfl
  have hy3 := hf 3 _ rfl
  have hy4 := hf 4 _ rfl
  have hy5 := hf 5 _ rfl
  have hy6 := hf 6 _ rfl
  have hy7 := hf 7 _ rfl
  have hy8 := hf 8 _ rfl
  have hy9 := hf 9 _ rfl
  have hy10 := hf 10 _ rfl
  have hy11 := hf 11 _ rfl
  have hy12 := hf 12 _ rfl
  have hy13 := hf 13 _ rfl
  have hy14 := hf 14 _ rfl
  have hy15 := hf 15 _ rfl
  have hy16 := hf 16 _ rfl
  have hy17 := hf 17 _ rfl
  have hy18 := hf 18 _ rfl
  simp [cellsI] at hy2 hy3 hy4 hy5 hy6 hy7 hy8 hy9 hy10 hy11 hy12 hy13 hy14 hy15 hy16 hy17 hy18
  obtain ⟨tv, T, eT, hT, hTn⟩ := openRecsP tenOk (fun y => y.name.size ≤ 9223372036854775807) cellsT (fun hl h => ten_cells hl h) hy0
  obtain ⟨lv, L, eL, hL, -⟩ := openRecsP intOk (fun _ => True) cellsI (fun hl h => int_cells hl h) hy1
  obtain ⟨a2, e2, -, -⟩ := DataW.trod_int Try.underlying3 hy2
  obtain ⟨a3, e3, -, -⟩ := DataW.trod_int Try.underlying3 hy3
  obtain ⟨a4, e4, -, -⟩ := DataW.trod_int Try.underlying3 hy4
  obtain ⟨a5, e5, -, -⟩ := DataW.trod_int Try.underlying3 hy5
  obtain ⟨a6, e6, -, -⟩ := DataW.trod_int Try.underlying3 hy6
  obtain ⟨a7, e7, -, -⟩ := DataW.trod_int Try.underlying3 hy7
  obtain ⟨a8, e8, -, -⟩ := DataW.trod_int Try.underlying3 hy8
  obtain ⟨a9, e9, -, -⟩ := DataW.trod_int Try.underlying3 hy9
  obtain ⟨a10, e10, -, -⟩ := DataW.trod_int Try.underlying3 hy10
  obtain ⟨a11, e11, -, -⟩ := DataW.trod_int Try.underlying3 hy11
  obtain ⟨a12, e12, -, -⟩ := DataW.trod_int Try.underlying3 hy12
  obtain ⟨a13, e13, -, -⟩ := DataW.trod_int Try.underlying3 hy13
  obtain ⟨a14, e14, -, -⟩ := DataW.trod_int Try.underlying3 hy14
  obtain ⟨a15, e15, -, -⟩ := DataW.trod_int Try.underlying3 hy15
  obtain ⟨a16, e16, -, -⟩ := DataW.trod_int Try.underlying3 hy16
  obtain ⟨a17, e17, -, -⟩ := DataW.trod_int Try.underlying3 hy17
  obtain ⟨a18, e18, -, -⟩ := DataW.trod_int Try.underlying3 hy18
  simp at e2 e3 e4 e5 e6 e7 e8 e9 e10 e11 e12 e13 e14 e15 e16 e17 e18
  simp only [List.cons.injEq, and_true] at eT eL
  exact ⟨⟨tv, lv, T, L, a2, a3, a4, a5, a6, a7, a8, a9, a10, a11, a12, a13, a14, a15, a16, a17, a18⟩, by rw [eT, eL, e2, e3, e4, e5, e6, e7, e8, e9, e10, e11, e12, e13, e14, e15, e16, e17, e18]; rfl, ⟨hT, hL, hTn⟩⟩

theorem openCfg {H : Type} {enc : TypeId × Value → H} {W : World} {b0 base : Nat} {r : Reach} {spare : Nat → Bool} {held : Bool} {v : Value} {d : DataW H} {p : List MemPlace}
    (hv : Value.okWide Try.prog W r b0 25 v) (h : DataW.Trod enc Try.prog W base spare held 25 v d p) : ∃ c : Cfg, v = .agg c.cells.toArray ∧ c.In W := by
  obtain ⟨cs, rfl, hsz⟩ := okWide_struct Try.underlying25 hv
  obtain ⟨fuel, hf⟩ := h
  rw [cellsC] at hsz
  obtain ⟨c, hcs, hin⟩ := cfg_cells (by simpa [Value.cells] using hsz) hf
  simp only [Value.cells] at hcs
  exact ⟨c, by rw [← hcs], hin⟩

end Go.Proofs.Ytogajmbkjojdhaa
