/- Calls and ticks that came in: what the values are. -/
import Derived.Test.YtkbjlpdmmbldpaaWhSame
import Derived.OpenShut
import Derived.Deep.Slices
import Derived.ProofKit
set_option linter.unusedVariables false
set_option linter.unusedSimpArgs false
set_option maxRecDepth 100000
namespace Go.Proofs.Ytkbjlpdmmbldpaa
open Go.ChangeShapes Go.WideShapes Go.ChangeAt Go.RowKit Go.Deep

/-- A slice's cells that came in, each element with a property. -/
theorem openRecsP {α : Type} {R : Rec α} (k : R.Ok) (Pr : α → Prop) (hcells : Try.prog.cellsOf R.ty = R.n)
    {H : Type} {enc : TypeId × Value → H} {W : World} {base : Nat} {spare : Nat → Bool} {held : Bool}
    (hopen : ∀ {fuel : Nat} {cs : List Value} {x : DataW H × List MemPlace}, cs.length = R.n → DataW.trod enc Try.prog W base spare held fuel R.ty cs = some x → ∃ y : α, cs = R.cells y ∧ Pr y)
    {fuel : Nat} {cs : List Value} {x : DataW H × List MemPlace}
    (hf : DataW.trod enc Try.prog W base spare held fuel R.st cs = some x) : ∃ (v : Value) (L : List α), cs = [v] ∧ Reads R W v L ∧ ∀ y ∈ L, Pr y := by
  rcases open_slice k.slice hf with ⟨rfl, _⟩ | ⟨a, len, cap, m, n, D, Pl, rfl, hb, hl, hm, hmm, hx, hi⟩
  · exact ⟨_, [], rfl, .inl ⟨rfl, none, 0, rfl⟩, by simp⟩
  · rw [hcells] at hi
    have hlm : len ≤ m := by rw [hmm]; split <;> omega
    have hy : ∀ i, i < len → ∃ y : α, Pr y ∧ ∀ j u, (R.cells y)[j]? = some u → W.cell? ((a.add (i * R.n)).add j) = some u := by
      intro i hil
      obtain ⟨cs', hc, ht'⟩ := hi i (by omega)
      obtain ⟨_, hcl, hat⟩ := World.cells?_some hc
      obtain ⟨y, rfl, hp⟩ := hopen hcl ht'
      exact ⟨y, hp, fun j u hu => by rw [hat j (by rw [← hcl]; exact (List.getElem?_eq_some_iff.1 hu).1), hu]⟩
    by_cases h0 : len = 0
    · subst h0; exact ⟨_, [], rfl, .inl ⟨rfl, _, _, rfl⟩, by simp⟩
    · have hs : a.spot = none := by
        obtain ⟨y, _, h1⟩ := hy 0 (by omega)
        obtain ⟨u, hu⟩ : ∃ u, (R.cells y)[0]? = some u := ⟨_, List.getElem?_eq_getElem (by rw [k.length]; exact k.pos)⟩
        have h2 := h1 0 u hu
        simpa [Addr.add] using World.cell?_spot h2
      obtain ⟨b, off, sp⟩ := a
      simp only at hs
      subst hs
      let f : Nat → α := fun i => if h : i < len then Classical.choose (hy i h) else R.zero
      refine ⟨_, (List.range len).map f, rfl, .inr ⟨b, off, cap, by simp, fun i y hiy => ?_⟩, ?_⟩
      · have hil : i < len := by have := (List.getElem?_eq_some_iff.1 hiy).1; simpa using this
        have hfy : f i = y := by simpa [hil] using hiy
        have hf2 : f i = Classical.choose (hy i hil) := dif_pos hil
        intro j u hu
        rw [← hfy, hf2] at hu
        have := (Classical.choose_spec (hy i hil)).2 j u hu
        rwa [Addr.add_mid, Addr.add_mid] at this
      · intro y hyin
        obtain ⟨i, hir, hfi⟩ := List.mem_map.1 hyin
        have hil : i < len := by simpa using hir
        have hf2 : f i = Classical.choose (hy i hil) := dif_pos hil
        rw [← hfi, hf2]
        exact (Classical.choose_spec (hy i hil)).1

/-- A call. -/
structure Ac where
  kind : Int
  id : Int
  t : Nat
def acR : Rec Ac := ⟨39, 23, 3, 24, fun x => .agg #[.int .i64 x.kind, .int .i64 x.id, .int .u64 (x.t : Int)], ⟨0, 0, 0⟩⟩
theorem acOk : acR.Ok where
  pos := by decide
  small := by decide
  bsmall := by decide
  len := fun _ => rfl
  one := by intro x v hv; simp [Rec.cells, acR, Value.cells] at hv; rcases hv with rfl | rfl | rfl <;> rfl
  slice := Try.underlying23
  info := ⟨_, rfl, rfl, rfl, rfl⟩
  fill := by
    intro y
    rw [show ((Array.range (1 * acR.n)).map (fun x => (acR.val acR.zero).cells[x % (acR.val acR.zero).cells.size]!)) = #[.int .i64 0, .int .i64 0, .int .u64 0] from by apply Array.toList_inj.1; rw [Array.toList_map, Array.toList_range]; rfl]
    obtain ⟨k, id, t⟩ := y
    kernel_rfl
def natR : Rec Nat := ⟨22, 24, 1, 8, fun n => .int .u64 (n : Int), 0⟩
theorem natOk : natR.Ok where
  pos := by decide
  small := by decide
  bsmall := by decide
  len := fun _ => rfl
  one := by intro x v hv; simp [Rec.cells, natR, Value.cells] at hv; subst hv; rfl
  slice := Try.underlying24
  info := ⟨_, rfl, rfl, rfl, rfl⟩
  fill := by
    intro y
    rw [show ((Array.range (1 * natR.n)).map (fun x => (natR.val natR.zero).cells[x % (natR.val natR.zero).cells.size]!)) = #[.int .u64 0] from by apply Array.toList_inj.1; rw [Array.toList_map, Array.toList_range]; rfl]
    simp [Instr.fill, Value.cells, natR]
theorem ac_parts {w : World} {b o : Nat} {a : Ac} (h : w.rangeAt b o (acR.cells a)) : w.cell? ⟨b, o, none⟩ = some (.int .i64 a.kind) ∧ w.cell? ⟨b, o + 1, none⟩ = some (.int .i64 a.id) ∧ w.cell? ⟨b, o + 2, none⟩ = some (.int .u64 (a.t : Int)) :=
  ⟨by simpa using h 0 _ rfl, by simpa using h 1 _ rfl, by simpa using h 2 _ rfl⟩
theorem nat_cell {w : World} {b off k : Nat} {x : Nat} (h : w.rangeAt b (off + k * natR.n) (natR.cells x)) : w.cell? ⟨b, off + k, none⟩ = some (.int .u64 (x : Int)) := by have := h 0 _ rfl; simpa [natR] using this
theorem cellsI : Try.prog.cellsOf 3 = 1 := by kernel_rfl
theorem cellsU : Try.prog.cellsOf 22 = 1 := by kernel_rfl
theorem cellsA : Try.prog.cellsOf 39 = 3 := by kernel_rfl
theorem natOf {z : Int} (h : (Lit.int .u64 z).wf = true) : ∃ n : Nat, z = (n : Int) ∧ n < 18446744073709551616 := by
  have := bounds_u64 h
  exact ⟨z.toNat, by omega, by omega⟩
theorem ac_cells {H : Type} {enc : TypeId × Value → H} {W : World} {base fuel : Nat} {spare : Nat → Bool} {held : Bool} {cs : List Value} {x : DataW H × List MemPlace} (hl : cs.length = 3)
    (h : DataW.trod enc Try.prog W base spare held fuel 39 cs = some x) : ∃ y : Ac, cs = acR.cells y ∧ y.t < 18446744073709551616 := by
  obtain ⟨ys, m, _, rfl, _, hl2, hf⟩ := DataW.trod_struct Try.underlying39 h
  match cs, hl with
  | [a, b, c], _ =>
  match ys, hl2 with
  | [y0, y1, y2], _ =>
  have hy0 := hf 0 _ rfl
  have hy1 := hf 1 _ rfl
  have hy2 := hf 2 _ rfl
  simp [cellsI, cellsU] at hy0 hy1 hy2
  obtain ⟨A, eA, -, -⟩ := DataW.trod_int Try.underlying3 hy0
  obtain ⟨B, eB, -, -⟩ := DataW.trod_int Try.underlying3 hy1
  obtain ⟨C, eC, -, hw⟩ := DataW.trod_int Try.underlying22 hy2
  simp at eA eB eC
  obtain ⟨n, rfl, hn⟩ := natOf hw
  exact ⟨⟨A, B, n⟩, by rw [eA, eB, eC]; rfl, hn⟩
theorem nat_cells {H : Type} {enc : TypeId × Value → H} {W : World} {base fuel : Nat} {spare : Nat → Bool} {held : Bool} {cs : List Value} {x : DataW H × List MemPlace} (hl : cs.length = 1)
    (h : DataW.trod enc Try.prog W base spare held fuel 22 cs = some x) : ∃ y : Nat, cs = natR.cells y ∧ y < 18446744073709551616 := by
  match cs, hl with
  | [c], _ =>
  obtain ⟨C, eC, -, hw⟩ := DataW.trod_int Try.underlying22 h
  simp at eC
  obtain ⟨n, rfl, hn⟩ := natOf hw
  exact ⟨n, by rw [eC]; rfl, hn⟩
theorem openActs {H : Type} {enc : TypeId × Value → H} {W : World} {b0 base : Nat} {r : Reach} {spare : Nat → Bool} {held : Bool} {v : Value} {d : DataW H} {p : List MemPlace}
    (hv : Value.okWide Try.prog W r b0 23 v) (h : DataW.Trod enc Try.prog W base spare held 23 v d p) : ∃ L : List Ac, Reads acR W v L ∧ ∀ a ∈ L, a.t < 18446744073709551616 := by
  obtain ⟨a0, len0, cap0, rfl⟩ := okWide_slice acOk.slice hv
  obtain ⟨fuel, hf⟩ := h
  obtain ⟨v', L, he, hr, hp⟩ := openRecsP acOk (fun a => a.t < 18446744073709551616) cellsA (fun hl h => ac_cells hl h) hf
  simp [Value.cells] at he
  subst he
  exact ⟨L, hr, hp⟩
theorem openNats {H : Type} {enc : TypeId × Value → H} {W : World} {b0 base : Nat} {r : Reach} {spare : Nat → Bool} {held : Bool} {v : Value} {d : DataW H} {p : List MemPlace}
    (hv : Value.okWide Try.prog W r b0 24 v) (h : DataW.Trod enc Try.prog W base spare held 24 v d p) : ∃ L : List Nat, Reads natR W v L ∧ ∀ a ∈ L, a < 18446744073709551616 := by
  obtain ⟨a0, len0, cap0, rfl⟩ := okWide_slice natOk.slice hv
  obtain ⟨fuel, hf⟩ := h
  obtain ⟨v', L, he, hr, hp⟩ := openRecsP natOk (fun a => a < 18446744073709551616) cellsU (fun hl h => nat_cells hl h) hf
  simp [Value.cells] at he
  subst he
  exact ⟨L, hr, hp⟩
end Go.Proofs.Ytkbjlpdmmbldpaa
