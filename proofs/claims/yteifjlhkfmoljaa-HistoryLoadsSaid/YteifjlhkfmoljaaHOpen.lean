/- Runs and what is asked, that came in; the law on classes. -/
import Derived.Test.YteifjlhkfmoljaaHLive
import Derived.OpenShut
import Derived.Deep.Slices
import Derived.ProofKit
set_option linter.unusedVariables false
namespace Go.Proofs.Yteifjlhkfmoljaa
open Go.ChangeShapes Go.WideShapes Go.ChangeAt Go.RowKit Go.Deep

/-- A slice's cells that came in, each element with a property. -/
theorem openRecsP {α : Type} {R : Rec α} (k : R.Ok) (Pr : α → Prop) (hcells : Try.prog.cellsOf R.ty = R.n)
    {H : Type} {enc : TypeId × Value → H} {W : World} {base : Nat} {spare : Nat → Bool} {held : Bool}
    (hopen : ∀ {fuel : Nat} {cs : List Value} {x : DataW H × List MemPlace}, cs.length = R.n → DataW.trod enc Try.prog W base spare held fuel R.ty cs = some x → ∃ y : α, cs = R.cells y ∧ Pr y)
    {fuel : Nat} {cs : List Value} {x : DataW H × List MemPlace}
    (hf : DataW.trod enc Try.prog W base spare held fuel R.st cs = some x) : ∃ (v : Value) (L : List α), cs = [v] ∧ Reads R W v L ∧ ∀ y ∈ L, Pr y := by
  rcases open_slice k.slice hf with ⟨rfl, _⟩ | ⟨a, len, cap, m, n, D, Pl, rfl, hb, hl, hm, hmm, hx, hi⟩
  · exact ⟨_, [], rfl, .inl ⟨rfl, none, 0, rfl⟩, by simp⟩
  · rw [hcells] at hi
    have hlm : len ≤ m := by rw [hmm]; split <;> omega
    have hy : ∀ i, i < len → ∃ y : α, Pr y ∧ ∀ j u, (R.cells y)[j]? = some u → W.cell? ((a.add (i * R.n)).add j) = some u := by
      intro i hil
      obtain ⟨cs', hc, ht'⟩ := hi i (by omega)
      obtain ⟨_, hcl, hat⟩ := World.cells?_some hc
      obtain ⟨y, rfl, hp⟩ := hopen hcl ht'
      exact ⟨y, hp, fun j u hu => by rw [hat j (by rw [← hcl]; exact (List.getElem?_eq_some_iff.1 hu).1), hu]⟩
    by_cases h0 : len = 0
    · subst h0; exact ⟨_, [], rfl, .inl ⟨rfl, _, _, rfl⟩, by simp⟩
    · have hs : a.spot = none := by
        obtain ⟨y, _, h1⟩ := hy 0 (by omega)
        obtain ⟨u, hu⟩ : ∃ u, (R.cells y)[0]? = some u := ⟨_, List.getElem?_eq_getElem (by rw [k.length]; exact k.pos)⟩
        have h2 := h1 0 u hu
        simpa [Addr.add] using World.cell?_spot h2
      obtain ⟨b, off, sp⟩ := a
      simp only at hs
      subst hs
      let f : Nat → α := fun i => if h : i < len then Classical.choose (hy i h) else R.zero
      refine ⟨_, (List.range len).map f, rfl, .inr ⟨b, off, cap, by simp, fun i y hiy => ?_⟩, ?_⟩
      · have hil : i < len := by have := (List.getElem?_eq_some_iff.1 hiy).1; simpa using this
        have hfy : f i = y := by simpa [hil] using hiy
        have hf2 : f i = Classical.choose (hy i hil) := dif_pos hil
        intro j u hu
        rw [← hfy, hf2] at hu
        have := (Classical.choose_spec (hy i hil)).2 j u hu
        rwa [Addr.add_mid, Addr.add_mid] at this
      · intro y hyin
        obtain ⟨i, hir, hfi⟩ := List.mem_map.1 hyin
        have hil : i < len := by simpa using hir
        have hf2 : f i = Classical.choose (hy i hil) := dif_pos hil
        rw [← hfi, hf2]
        exact (Classical.choose_spec (hy i hil)).1

theorem cellsI : Try.prog.cellsOf 3 = 1 := by kernel_rfl
theorem cellsU : Try.prog.cellsOf 30 = 1 := by kernel_rfl
theorem cellsS : Try.prog.cellsOf 9 = 1 := by kernel_rfl
theorem cellsIs : Try.prog.cellsOf 23 = 1 := by kernel_rfl
theorem cellsRs : Try.prog.cellsOf 22 = 1 := by kernel_rfl
theorem cellsR : Try.prog.cellsOf 32 = 2 := by kernel_rfl
theorem cellsQ : Try.prog.cellsOf 25 = 3 := by kernel_rfl

set_option maxRecDepth 100000 in
theorem int_cells {H : Type} {enc : TypeId × Value → H} {W : World} {base fuel : Nat} {spare : Nat → Bool} {held : Bool} {cs : List Value} {x : DataW H × List MemPlace} (hl : cs.length = 1)
    (h : DataW.trod enc Try.prog W base spare held fuel 3 cs = some x) : ∃ y : Int, cs = intR.cells y ∧ inI y := by
  obtain ⟨A, eA, -, hw⟩ := DataW.trod_int Try.underlying3 h
  exact ⟨A, by rw [eA]; rfl, bounds_i64 hw⟩

/-- A run. -/
structure Rn where
  key : ByteArray
  x : Int
def rnR : Rec Rn := ⟨32, 22, 2, 24, fun a => .agg #[.string a.key, .int .u64 a.x], ⟨⟨#[]⟩, 0⟩⟩
theorem rnOk : rnR.Ok where
  pos := by decide
  small := by decide
  bsmall := by decide
  len := fun _ => rfl
  one := by
    intro x v hv
    simp [Rec.cells, rnR, Value.cells] at hv
    rcases hv with rfl | rfl <;> rfl
  slice := Try.underlying22
  info := ⟨_, rfl, rfl, rfl, rfl⟩
  fill := by
    intro y
    rw [show ((Array.range (1 * rnR.n)).map (fun x => (rnR.val rnR.zero).cells[x % (rnR.val rnR.zero).cells.size]!)) = #[.string ⟨#[]⟩, .int .u64 0] from by apply Array.toList_inj.1; rw [Array.toList_map, Array.toList_range]; rfl]
    simp [Instr.fill, Value.cells, rnR]
theorem rn_parts {w : World} {b o : Nat} {a : Rn} (h : w.rangeAt b o (rnR.cells a)) : w.cell? ⟨b, o, none⟩ = some (.string a.key) ∧ w.cell? ⟨b, o + 1, none⟩ = some (.int .u64 a.x) :=
  ⟨by simpa using h 0 _ rfl, by simpa using h 1 _ rfl⟩
def inU (a : Rn) : Prop := 0 ≤ a.x ∧ a.x ≤ 18446744073709551615
set_option maxRecDepth 100000 in
theorem rn_cells {H : Type} {enc : TypeId × Value → H} {W : World} {base fuel : Nat} {spare : Nat → Bool} {held : Bool} {cs : List Value} {x : DataW H × List MemPlace} (hl : cs.length = 2)
    (h : DataW.trod enc Try.prog W base spare held fuel 32 cs = some x) : ∃ y : Rn, cs = rnR.cells y ∧ inU y := by
  obtain ⟨ys, m, _, rfl, _, hl2, hf⟩ := DataW.trod_struct Try.underlying32 h
  match cs, hl with
  | [a, b], _ =>
  match ys, hl2 with
  | [y0, y1], _ =>
  have hy0 := hf 0 _ rfl
  have hy1 := hf 1 _ rfl
  simp [cellsU, cellsS] at hy0 hy1
  obtain ⟨E, eE, -, -⟩ := DataW.trod_string Try.underlying9 hy0
  obtain ⟨A, eA, -, hw⟩ := DataW.trod_int Try.underlying30 hy1
  simp at eA eE
  exact ⟨⟨E, A⟩, by rw [eA, eE]; rfl, by have := bounds_u64 hw; exact ⟨this.1, this.2⟩⟩

/-- What is asked. -/
structure Qs where
  key : ByteArray
  lv : Value
  L : List Int
  p : Int
def Qs.cells (q : Qs) : List Value := [.string q.key, q.lv, .int .i64 q.p]
structure Qs.In (q : Qs) (w : World) : Prop where
  lim : Reads intR w q.lv q.L
  bd : ∀ n ∈ q.L, inI n
set_option maxRecDepth 100000 in
theorem qs_cells {H : Type} {enc : TypeId × Value → H} {W : World} {base fuel : Nat} {spare : Nat → Bool} {held : Bool} {cs : List Value} {x : DataW H × List MemPlace} (hl : cs.length = 3)
    (h : DataW.trod enc Try.prog W base spare held fuel 25 cs = some x) : ∃ q : Qs, cs = q.cells ∧ q.In W := by
  obtain ⟨ys, m, _, rfl, _, hl2, hf⟩ := DataW.trod_struct Try.underlying25 h
  match cs, hl with
  | [a, b, c], _ =>
  match ys, hl2 with
  | [y0, y1, y2], _ =>
  have hy0 := hf 0 _ rfl
  have hy1 := hf 1 _ rfl
  have hy2 := hf 2 _ rfl
  simp [cellsI, cellsS, cellsIs] at hy0 hy1 hy2
  obtain ⟨E, eE, -, -⟩ := DataW.trod_string Try.underlying9 hy0
  obtain ⟨lv, L, eL, hL, hb⟩ := openRecsP intOk inI cellsI (fun hl h => int_cells hl h) hy1
  obtain ⟨A, eA, -, -⟩ := DataW.trod_int Try.underlying3 hy2
  simp at eA eE
  simp only [List.cons.injEq, and_true] at eL
  exact ⟨⟨E, lv, L, A⟩, by rw [eA, eL, eE]; rfl, ⟨hL, hb⟩⟩
set_option maxRecDepth 100000 in
theorem openQs {H : Type} {enc : TypeId × Value → H} {W : World} {b0 base : Nat} {r : Reach} {spare : Nat → Bool} {held : Bool} {v : Value} {d : DataW H} {p : List MemPlace}
    (hv : Value.okWide Try.prog W r b0 25 v) (h : DataW.Trod enc Try.prog W base spare held 25 v d p) : ∃ q : Qs, v = .agg q.cells.toArray ∧ q.In W := by
  obtain ⟨cs, rfl, hsz⟩ := okWide_struct Try.underlying25 hv
  obtain ⟨fuel, hf⟩ := h
  rw [cellsQ] at hsz
  obtain ⟨c, hcs, hin⟩ := qs_cells (by simpa [Value.cells] using hsz) hf
  simp only [Value.cells] at hcs
  exact ⟨c, by rw [← hcs], hin⟩
set_option maxRecDepth 100000 in
theorem openRns {H : Type} {enc : TypeId × Value → H} {W : World} {b0 base : Nat} {r : Reach} {spare : Nat → Bool} {held : Bool} {v : Value} {d : DataW H} {p : List MemPlace}
    (hv : Value.okWide Try.prog W r b0 22 v) (h : DataW.Trod enc Try.prog W base spare held 22 v d p) : ∃ L : List Rn, Reads rnR W v L ∧ ∀ a ∈ L, inU a := by
  obtain ⟨a0, len0, cap0, rfl⟩ := okWide_slice rnOk.slice hv
  obtain ⟨fuel, hf⟩ := h
  obtain ⟨v', L, he, hr, hp⟩ := openRecsP rnOk inU cellsR (fun hl h => rn_cells hl h) hf
  simp [Value.cells] at he
  subst he
  exact ⟨L, hr, hp⟩

/-! ### The law -/
open HistLaw in
theorem plcOk_two {v : Hs} {p q : Int} (h1 : 1 ≤ p) (h2 : p ≤ q) (h3 : q ≤ 100) : plcOk v.1 p = plcOk v.1 q := by
  unfold plcOk
  rw [decide_eq_true h1, decide_eq_true (show p ≤ 100 by omega), decide_eq_true (show 1 ≤ q by omega), decide_eq_true h3]
open HistLaw in
theorem ofv_mono {v : Hs} {p q : Int} (h1 : 1 ≤ p) (h2 : p ≤ q) (h3 : q ≤ 100) : ofv v p ≤ ofv v q := by
  have e := plcOk_two (v := v) h1 h2 h3
  unfold ofv
  cases hp : plcOk v.1 p with
  | false => rw [← e, hp]; simp
  | true =>
    rw [← e, hp]
    simp only [if_true]
    have hq : plcOk v.1 q = true := by rw [← e]; exact hp
    have hm := plcB_mono v.2 hp hq h2
    have hk := (plcB_spec v.2 (plcOk_iff.1 hq).1 h3).1
    exact highv_mono (by omega) (by omega) (by omega)
theorem idx_mono {x y : Int} (L : List Int) (h : x ≤ y) : idx x L ≤ idx y L := by
  rcases Nat.lt_or_ge (idx y L) L.length with hi | hi
  · rcases Nat.lt_or_ge (idx y L) (idx x L) with h1 | h1
    · have h2 : decide (y ≤ max L[idx y L] 0) = true := List.findIdx_getElem (w := hi)
      have h3 : decide (x ≤ max L[idx y L] 0) = false := by
        have := List.not_of_lt_findIdx (p := fun n => decide (x ≤ max n 0)) (xs := L) h1
        simpa using this
      have a := of_decide_eq_true h2
      have b := of_decide_eq_false h3
      omega
    · exact h1
  · have := idx_le x L; omega
open HistLaw in
theorem cls_mono {v : Hs} {L : List Int} {p q : Int} (h1 : 1 ≤ p) (h2 : p ≤ q) (h3 : q ≤ 100) : clsV v L p ≤ clsV v L q := by
  have e := plcOk_two (v := v) h1 h2 h3
  unfold clsV
  rw [← e]
  split
  · have := idx_mono L (ofv_mono (v := v) h1 h2 h3)
    omega
  · omega
theorem cls_bd (v : Hs) (L : List Int) (p : Int) : 0 ≤ clsV v L p ∧ clsV v L p ≤ L.length := by
  unfold clsV
  have := idx_le (ofv v p) L
  split <;> omega
theorem idx_at {x : Int} {L : List Int} (h : idx x L < L.length) : ∃ n, L[idx x L]? = some n ∧ x ≤ max n 0 := by
  refine ⟨L[idx x L], List.getElem?_eq_getElem h, ?_⟩
  have h2 : decide (x ≤ max L[idx x L] 0) = true := List.findIdx_getElem (w := h)
  exact of_decide_eq_true h2

end Go.Proofs.Yteifjlhkfmoljaa
