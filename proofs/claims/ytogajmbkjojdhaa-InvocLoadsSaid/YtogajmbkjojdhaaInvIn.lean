/- Calls and invocations that came in: what the values are; what is more than is gone through here. -/
import Derived.Test.YtogajmbkjojdhaaInvBig
import Derived.Test.YtogajmbkjojdhaaConfOpen
set_option linter.unusedVariables false
set_option linter.unusedSimpArgs false
set_option maxRecDepth 100000
namespace Go.Proofs.Ytogajmbkjojdhaa
open Go.ChangeShapes Go.WideShapes Go.ChangeAt Go.RowKit Go.Deep

/-- What a number and a text can be. -/
def IvIn (x : Iv) : Prop := x.nm.size ≤ 9223372036854775807 ∧ (-9223372036854775808 ≤ x.no ∧ x.no ≤ 9223372036854775807)
theorem cellsIv : Try.prog.cellsOf 32 = 5 := by kernel_rfl
theorem iv_cells {H : Type} {enc : TypeId × Value → H} {W : World} {base fuel : Nat} {spare : Nat → Bool} {held : Bool} {cs : List Value} {x : DataW H × List MemPlace} (hl : cs.length = 5)
    (h : DataW.trod enc Try.prog W base spare held fuel 32 cs = some x) : ∃ y : Iv, cs = ivR.cells y ∧ IvIn y := by
  obtain ⟨ys, m, _, rfl, _, hl2, hf⟩ := DataW.trod_struct Try.underlying32 h
  match cs, hl with
  | [a, b, c, d, e], _ =>
  match ys, hl2 with
  | [y0, y1, y2, y3, y4], _ =>
  have hy0 := hf 0 _ rfl
  have hy1 := hf 1 _ rfl
  have hy2 := hf 2 _ rfl
  have hy3 := hf 3 _ rfl
  have hy4 := hf 4 _ rfl
  simp [cellsI, cellsS] at hy0 hy1 hy2 hy3 hy4
  obtain ⟨A, eA, -, hA⟩ := DataW.trod_int Try.underlying3 hy0
  obtain ⟨B, eB, -, -⟩ := DataW.trod_int Try.underlying3 hy1
  obtain ⟨C, eC, -, hC⟩ := DataW.trod_string Try.underlying9 hy2
  obtain ⟨D, eD, -, -⟩ := DataW.trod_int Try.underlying3 hy3
  obtain ⟨E, eE, -, -⟩ := DataW.trod_int Try.underlying3 hy4
  simp at eA eB eC eD eE
  exact ⟨⟨A, B, C, D, E⟩, by rw [eA, eB, eC, eD, eE]; rfl, hC, bounds_i64 hA⟩
theorem openIvs {H : Type} {enc : TypeId × Value → H} {W : World} {b0 base : Nat} {r : Reach} {spare : Nat → Bool} {held : Bool} {v : Value} {d : DataW H} {p : List MemPlace}
    (hv : Value.okWide Try.prog W r b0 35 v) (h : DataW.Trod enc Try.prog W base spare held 35 v d p) : ∃ L : List Iv, Reads ivR W v L ∧ ∀ a ∈ L, IvIn a := by
  obtain ⟨a0, len0, cap0, rfl⟩ := okWide_slice ivOk.slice hv
  obtain ⟨fuel, hf⟩ := h
  obtain ⟨v', L, he, hr, hp⟩ := openRecsP ivOk IvIn cellsIv (fun hl h => iv_cells hl h) hf
  simp [Value.cells] at he
  subst he
  exact ⟨L, hr, hp⟩
/-- A call. -/
structure Ia where
  kind : Int
  x : Iv
def iaR : Rec Ia := ⟨34, 26, 6, 56, fun a => .agg #[.int .i64 a.kind, .int .i64 a.x.no, .int .i64 a.x.tn, .string a.x.nm, .int .i64 a.x.wt, .int .i64 a.x.ld], ⟨0, zeroIv⟩⟩
theorem iaOk : iaR.Ok where
  pos := by decide
  small := by decide
  bsmall := by decide
  len := fun _ => rfl
  one := by
    intro x v hv
    simp [Rec.cells, iaR, Value.cells] at hv
    rcases hv with rfl | rfl | rfl | rfl | rfl | rfl <;> rfl
  slice := Try.underlying26
  info := ⟨_, rfl, rfl, rfl, rfl⟩
  fill := by
    intro y
    rw [show ((Array.range (1 * iaR.n)).map (fun x => (iaR.val iaR.zero).cells[x % (iaR.val iaR.zero).cells.size]!)) = #[.int .i64 0, .int .i64 0, .int .i64 0, .string ⟨#[]⟩, .int .i64 0, .int .i64 0] from by apply Array.toList_inj.1; rw [Array.toList_map, Array.toList_range]; rfl]
    simp [Instr.fill, Value.cells, iaR]
theorem cellsIa : Try.prog.cellsOf 34 = 6 := by kernel_rfl
theorem ia_cells {H : Type} {enc : TypeId × Value → H} {W : World} {base fuel : Nat} {spare : Nat → Bool} {held : Bool} {cs : List Value} {x : DataW H × List MemPlace} (hl : cs.length = 6)
    (h : DataW.trod enc Try.prog W base spare held fuel 34 cs = some x) : ∃ y : Ia, cs = iaR.cells y ∧ IvIn y.x := by
  obtain ⟨ys, m, _, rfl, _, hl2, hf⟩ := DataW.trod_struct Try.underlying34 h
  match cs, hl with
  | [a, b, c, d, e, f], _ =>
  match ys, hl2 with
  | [y0, y1], _ =>
  have hy0 := hf 0 _ rfl
  have hy1 := hf 1 _ rfl
  simp [cellsI, cellsIv] at hy0 hy1
  obtain ⟨A, eA, -, -⟩ := DataW.trod_int Try.underlying3 hy0
  obtain ⟨y, hy, hin⟩ := iv_cells (by rfl) hy1
  simp at eA
  exact ⟨⟨A, y⟩, by rw [eA, hy]; rfl, hin⟩
theorem openIas {H : Type} {enc : TypeId × Value → H} {W : World} {b0 base : Nat} {r : Reach} {spare : Nat → Bool} {held : Bool} {v : Value} {d : DataW H} {p : List MemPlace}
    (hv : Value.okWide Try.prog W r b0 26 v) (h : DataW.Trod enc Try.prog W base spare held 26 v d p) : ∃ L : List Ia, Reads iaR W v L ∧ (∀ a ∈ L, IvIn a.x) ∧ L.length ≤ 9223372036854775807 := by
  obtain ⟨a0, len0, cap0, rfl⟩ := okWide_slice iaOk.slice hv
  obtain ⟨fuel, hf⟩ := h
  have hlen : len0 ≤ 9223372036854775807 := by
    rcases open_slice iaOk.slice hf with ⟨h1, _⟩ | ⟨a, len, cap, m, n, D, Pl, h1, hb, hl, hm, hmm, hx, hi⟩
    · simp [Value.cells] at h1
      omega
    · simp [Value.cells] at h1
      have : maxLen ≤ 9223372036854775807 := by decide
      omega
  obtain ⟨v', L, he, hr, hp⟩ := openRecsP iaOk (fun a => IvIn a.x) cellsIa (fun hl h => ia_cells hl h) hf
  simp [Value.cells] at he
  subst he
  refine ⟨L, hr, hp, ?_⟩
  obtain ⟨q1, q2, hq⟩ := hr.form
  simp at hq
  omega
theorem ia_parts {w : World} {b o : Nat} {a : Ia} (h : w.rangeAt b o (iaR.cells a)) : w.cell? ⟨b, o, none⟩ = some (.int .i64 a.kind) ∧ w.cell? ⟨b, o + 1, none⟩ = some (.int .i64 a.x.no) ∧ w.cell? ⟨b, o + 2, none⟩ = some (.int .i64 a.x.tn) ∧ w.cell? ⟨b, o + 3, none⟩ = some (.string a.x.nm) ∧ w.cell? ⟨b, o + 4, none⟩ = some (.int .i64 a.x.wt) ∧ w.cell? ⟨b, o + 5, none⟩ = some (.int .i64 a.x.ld) :=
  ⟨by simpa using h 0 _ rfl, by simpa using h 1 _ rfl, by simpa using h 2 _ rfl, by simpa using h 3 _ rfl, by simpa using h 4 _ rfl, by simpa using h 5 _ rfl⟩
def largeB (c : Cfg) (A : List Ia) : Bool := A.any (fun a => decide (300 < a.x.nm.size)) || decide (20 < c.T.length) || decide (20 < c.L.length) || decide (100 < A.length)
set_option maxHeartbeats 4000000 in
theorem large_any (w : World) (c : Cfg) (hin : c.In w) (v : Value) (A : List Ia) (hv : Reads iaR w v A) (hA : ∀ a ∈ A, IvIn a.x) (hAl : A.length ≤ 9223372036854775807) :
    Calls Try.prog 7 #[.agg c.cells.toArray, v] w fun e w' => e = .returned (.bool (largeB c A)) ∧ Below w.heap.size w w' := by
  obtain ⟨av, capv, rfl⟩ := hv.form
  have hA0 := CfgAt.new c w
  have hb1 : Below w.heap.size w (w.alloc (.cells c.cells.toArray 25)) := (Below.refl _ _).alloc (Nat.le_refl _) _
  obtain ⟨c0, c1, -⟩ := nineteen hA0.range
  obtain ⟨at', capt, hvt⟩ := (hin.below hb1).t.form
  obtain ⟨al', capl, hvl⟩ := (hin.below hb1).l.form
  rw [hvt] at c0
  rw [hvl] at c1
  obtain ⟨W1, hW1⟩ : ∃ W1, W1 = w.alloc (.cells c.cells.toArray 25) := ⟨_, rfl⟩
  rw [← hW1] at c0 c1 hb1
  have HV := Lib.hid (hv.below hb1)
  have HB1 := Lib.hid hb1
  have HA := Lib.hid hA
  clear hv hA0 hin hvt hvl hb1 hA
  go_enter Try.func7, Try.ntmps7
  go_upto_region 1 with fail
  show Code.wp _ _ _ _ (w.alloc (.cells c.cells.toArray 25))
  rw [← hW1]
  clear hW1
  go_wp2_with fail
  go_loopw [5] (fun i wr => ∃ k : Nat, k ≤ A.length ∧ i = .int .i64 k ∧ wr = W1 ∧ Hid ((A.take k).any (fun a => decide (300 < a.x.nm.size)) = false)) (fun i _ => A.length - lenI i)
  case atStart => exact ⟨0, by omega, rfl, rfl, Lib.hid rfl⟩
  case round =>
    obtain ⟨k, hk, rfl, rfl, hE⟩ := hrel
    by_cases hlt : k < A.length
    · obtain ⟨a, ha⟩ : ∃ a, A[k]? = some a := ⟨_, List.getElem?_eq_getElem hlt⟩
      obtain ⟨b, off, rfl, hr⟩ := HV.out.at ha
      obtain ⟨-, -, -, k3, -⟩ := ia_parts hr
      have k3' : wr.cell? ⟨b, off + k * 6 + 3, none⟩ = some (.string a.x.nm) := k3
      have hsz := (HA.out a (List.mem_of_getElem? ha)).1
      by_cases h300 : 300 < a.x.nm.size
      · have q1 : decide ((300 : Int) < (a.x.nm.size : Int)) = true := by simp; omega
        have q2 : decide (300 < a.x.nm.size) = true := by simp; omega
        have HL := Lib.hid (show largeB c A = true from by
          unfold largeB
          rw [show A.any (fun a => decide (300 < a.x.nm.size)) = true from List.any_eq_true.2 ⟨a, List.mem_of_getElem? ha, q2⟩]
          rfl)
        clear ha hr k3 hE h300
        go_wp2_with fail
        go_ret
        exact ⟨by rw [HL.out]; rfl, HB1.out⟩
      · have q1 : decide ((300 : Int) < (a.x.nm.size : Int)) = false := by simp; omega
        have q2 : decide (300 < a.x.nm.size) = false := by simp; omega
        have HE2 : Hid ((A.take (k + 1)).any (fun a => decide (300 < a.x.nm.size)) = false) := Lib.hid (by
          rw [← take_snoc ha, List.any_append, hE.out]
          simp [q2])
        clear ha hr k3 hE h300
        go_wp2_with fail
        go_roundw
        case rel => exact ⟨k + 1, by omega, by go_num, by first | rfl | trivial, HE2⟩
        case measure => simp [lenI]; omega
    · obtain rfl : k = A.length := by omega
      rw [List.take_length] at hE
      have HL := Lib.hid (show largeB c A = (decide (20 < c.T.length) || decide (20 < c.L.length) || decide (100 < A.length)) from by unfold largeB; rw [hE.out]; simp)
      clear hE
      by_cases h1 : 20 < c.T.length
      · have q1 : decide ((20 : Int) < (c.T.length : Int)) = true := by simp; omega
        have HL2 := Lib.hid (show largeB c A = true from by rw [HL.out]; simp [h1])
        clear h1
        go_wp2_with fail
        go_ret
        exact ⟨by rw [HL2.out]; rfl, HB1.out⟩
      · have q1 : decide ((20 : Int) < (c.T.length : Int)) = false := by simp; omega
        by_cases h2 : 20 < c.L.length
        · have q2 : decide ((20 : Int) < (c.L.length : Int)) = true := by simp; omega
          have HL2 := Lib.hid (show largeB c A = true from by rw [HL.out]; simp [h2])
          clear h1 h2
          go_wp2_with fail
          all_goals try (exfalso; omega)
          go_ret
          exact ⟨by rw [HL2.out]; rfl, HB1.out⟩
        · have q2 : decide ((20 : Int) < (c.L.length : Int)) = false := by simp; omega
          have HL2 := Lib.hid (show largeB c A = decide ((100 : Int) < (A.length : Int)) from by
            rw [HL.out]
            have e1 : decide (20 < c.T.length) = false := by simp; omega
            have e2 : decide (20 < c.L.length) = false := by simp; omega
            rw [e1, e2, Bool.false_or, Bool.false_or]
            exact decide_eq_decide.2 (by omega))
          clear h1 h2
          go_wp2_with fail
          all_goals try (exfalso; omega)
          go_ret
          exact ⟨by rw [HL2.out]; rfl, HB1.out⟩
end Go.Proofs.Ytogajmbkjojdhaa
