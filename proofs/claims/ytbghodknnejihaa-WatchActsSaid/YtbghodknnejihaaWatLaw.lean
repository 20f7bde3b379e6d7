/- Who waits, as records; texts, as records. -/
import Derived.Test.YtbghodknnejihaaRec
import Derived.Lib.Strings
set_option linter.unusedVariables false
namespace Go.Proofs.Ytbghodknnejihaa
open Go.RowKit

theorem bytes_inj (a b : ByteArray) : a.toList = b.toList ↔ a = b :=
  ⟨fun h => by
    rw [Lib.toList_data, Lib.toList_data] at h
    have h2 : a.data = b.data := Array.toList_inj.1 h
    cases a; cases b
    simpa using h2, fun h => by rw [h]⟩
theorem bytes_inj' (a b : ByteArray) : (a.toList = b.toList) = (a = b) := propext (bytes_inj a b)

theorem take_eq_of {α : Type} {A B : List α} {k : Nat} (h : A.take k = B.take k) {x y : α} (hx : A[k]? = some x) (hy : B[k]? = some y) (e : x = y) : A.take (k + 1) = B.take (k + 1) := by
  rw [← take_snoc hx, ← take_snoc hy, h, e]

theorem quiet_load_mid {P : Program} {C : World → Prop} {K : Act → Prop} {a : Act} {o : Oper} (ty : TypeId) (x : Operand) (ho : o.op = .load ty x)
    (b off : Nat) (hx : a.eval x = .pointer (some ⟨b, off, none⟩)) (cs : List Value) (d : TypeDesc) (hr : ∀ w, C w → w.rangeAt b off cs)
    (hu : P.underlying ty = some d) (hd : d.isRow = true) (hi : (P.info? ty).map (·.size) = some cs.length)
    (h : K (a.put o.dst (.agg cs.toArray))) : o.quiet P a C K :=
  ⟨.agg cs.toArray, fun w hw => by
    unfold Oper.quietAt execOp
    simp only [ho, hx, Instr.loadAt, Instr.sureAddr, Sem.run_bind, Sem.run_pure, Result.andThen_ok, run_loadVar_mid w b off ty cs d (hr w hw) hu hd hi]
    trivial, h⟩

/-- A text in one cell. -/
def strR : Rec ByteArray := ⟨9, 36, 1, 16, fun s => .string s, ⟨#[]⟩⟩
theorem strOk : strR.Ok where
  pos := by decide
  small := by decide
  bsmall := by decide
  len := fun _ => rfl
  one := by intro x v hv; simp [Rec.cells, strR, Value.cells] at hv; subst hv; rfl
  slice := Try.underlying36
  info := ⟨_, rfl, rfl, rfl, rfl⟩
  fill := by
    intro y
    rw [show ((Array.range (1 * strR.n)).map (fun x => (strR.val strR.zero).cells[x % (strR.val strR.zero).cells.size]!)) = #[.string ⟨#[]⟩] from by apply Array.toList_inj.1; rw [Array.toList_map, Array.toList_range]; rfl]
    simp [Instr.fill, Value.cells, strR]

/-- Who waits for what. -/
structure Wat where
  name : ByteArray
  op : Int
deriving DecidableEq
def watR : Rec Wat := ⟨28, 26, 2, 24, fun x => .agg #[.string x.name, .int .i64 x.op], ⟨⟨#[]⟩, 0⟩⟩
theorem watOk : watR.Ok where
  pos := by decide
  small := by decide
  bsmall := by decide
  len := fun _ => rfl
  one := by
    intro x v hv
    simp [Rec.cells, watR, Value.cells] at hv
    rcases hv with rfl | rfl <;> rfl
  slice := Try.underlying26
  info := ⟨_, rfl, rfl, rfl, rfl⟩
  fill := by
    intro y
    rw [show ((Array.range (1 * watR.n)).map (fun x => (watR.val watR.zero).cells[x % (watR.val watR.zero).cells.size]!)) = #[.string ⟨#[]⟩, .int .i64 0] from by apply Array.toList_inj.1; rw [Array.toList_map, Array.toList_range]; rfl]
    simp [Instr.fill, Value.cells, watR]

theorem wat_part0 (x : Wat) (w : World) : (part 9 (watR.cells x).toArray 0).run Try.prog w = .ok (.string x.name) w := by
  have ht : (isAgg 9).run Try.prog w = .ok false w := by kernel_rfl
  simp [part, ht, Rec.cells, watR, Value.cells]
theorem wat_part1 (x : Wat) (w : World) : (part 3 (watR.cells x).toArray 1).run Try.prog w = .ok (.int .i64 x.op) w := by
  have ht : (isAgg 3).run Try.prog w = .ok false w := by kernel_rfl
  simp [part, ht, Rec.cells, watR, Value.cells]
theorem wat_eq (d : Nat) (x y : Wat) (w : World) : (Op.equalIn (d + 2) 28 (.agg (watR.cells x).toArray) (.agg (watR.cells y).toArray)).run Try.prog w = .ok (decide (x = y)) w := by
  have h0 : Try.prog.stoodInHeld 28 = false := by kernel_rfl
  unfold Op.equalIn
  simp only [Sem.run_bind, run_underlying Try.underlying28, Result.andThen_ok]
  simp [Sem.run_bind, h0, wat_part0, wat_part1, run_equalIn_int w d 3 .i64 .i64 _ _ Try.underlying3, run_equalIn_string w d 9 _ _ Try.underlying9, bytes_inj]
  obtain ⟨a1, a2⟩ := x
  obtain ⟨b1, b2⟩ := y
  simp only [Wat.mk.injEq]
  by_cases h1 : a1 = b1 <;> by_cases h2 : a2 = b2 <;> simp [h1, h2]
theorem watGuard : Try.prog.eqGuardType Try.prog.depth 28 = false := by kernel_rfl

set_option maxRecDepth 100000 in
set_option maxHeartbeats 1000000 in
theorem sameWat_any (w : World) (va vb : Value) (A B : List _) (ha : Reads watR w va A) (hb : Reads watR w vb B) (hbig : A.length ≤ 1000000) :
    Calls Try.prog 14 #[va, vb] w fun e w' => e = .returned (.bool (decide (A = B))) ∧ Below w.heap.size w w' := by
  obtain ⟨aa, capa, rfl⟩ := ha.form
  obtain ⟨ab, capb, rfl⟩ := hb.form
  by_cases hlen : A.length = B.length
  · have hlen2 := hlen.symm
    clear hlen
    have HA := Lib.hid ha
    have HB := Lib.hid hb
    clear ha hb
    go_enter Try.func14, Try.ntmps14
    go_wp2_with fail
    go_loopw [5] (fun i wr => ∃ k : Nat, k ≤ A.length ∧ i = .int .i64 k ∧ Below w.heap.size w wr ∧ A.take k = B.take k) (fun i _ => A.length - (intOf i).toNat)
    case atStart => exact ⟨0, by omega, rfl, Below.refl _ _, by simp⟩
    case round =>
      obtain ⟨k, hk, rfl, hW, hE⟩ := hrel
      have HE := Lib.hid hE
      clear hE
      by_cases hlt : k < A.length
      · obtain ⟨x, hx⟩ : ∃ x, A[k]? = some x := ⟨_, List.getElem?_eq_getElem hlt⟩
        obtain ⟨y, hy⟩ : ∃ y, B[k]? = some y := ⟨_, List.getElem?_eq_getElem (by omega)⟩
        obtain ⟨b1, o1, rfl, r1⟩ := (HA.out.below hW).at hx
        obtain ⟨b2, o2, rfl, r2⟩ := (HB.out.below hW).at hy
        have HX := Lib.hid hx
        have HY := Lib.hid hy
        have R1 := Lib.hid (fun (w' : World) (hx : ∃ x : Later wr, w' = x.w) => (show w'.rangeAt b1 (o1 + k * watR.n) (watR.cells x) from by obtain ⟨z, rfl⟩ := hx; exact below_range z.h r1))
        have R2 := Lib.hid (fun (w' : World) (hx : ∃ x : Later wr, w' = x.w) => (show w'.rangeAt b2 (o2 + k * watR.n) (watR.cells y) from by obtain ⟨z, rfl⟩ := hx; exact below_range z.h r2))
        clear hx hy r1 r2
        have hsame := fun w => wat_eq 9998 x y w
        have hguard := watGuard
        go_wp2_with fail
        refine wp_region_later (by kernel_rfl) (by kernel_rfl) (Below.refl _ _) ?_
        repeat (first
          | go_big_quiet_skip
          | (go_big_quiet_want; first
            | (refine quiet_load_mid 28 _ rfl b1 (o1 + k * watR.n) rfl (watR.cells x) _ R1.out Try.underlying28 rfl (watOk.row x) ?_; simp only [Act.put, List.setIfInBounds_toArray, List.set_cons_succ, List.set_cons_zero]; go_big_quiet_on)
            | (refine quiet_load_mid 28 _ rfl b2 (o2 + k * watR.n) rfl (watR.cells y) _ R2.out Try.underlying28 rfl (watOk.row y) ?_; simp only [Act.put, List.setIfInBounds_toArray, List.set_cons_succ, List.set_cons_zero]; go_big_quiet_on)
            | (go_big_quiet_op; go_big_quiet_on)))
        refine wpQuiet_nil ?_
        rintro ⟨W2, hb2⟩
        dsimp only
        clear hsame hguard R1 R2
        by_cases hxy : x = y
        · have HE2 := Lib.hid (take_eq_of HE.out HX.out HY.out hxy)
          have hxyb : decide (x = y) = true := decide_eq_true hxy
          clear HX HY HE
          clear hxy
          rw [hxyb]
          go_wp2_with fail
          go_roundw
          case rel => exact ⟨k + 1, by omega, by go_num, bthen' hW hb2, HE2.out⟩
          case measure => simp [intOf]; omega
        · have hne := Lib.hid (show decide (A = B) = false from decide_eq_false (fun e => hxy (by
            have h1 := HX.out
            rw [e, HY.out] at h1
            exact (Option.some.inj h1).symm)))
          have hxyb : decide (x = y) = false := decide_eq_false hxy
          clear hxy HX HY HE
          rw [hxyb]
          go_wp2_with fail
          go_ret
          exact ⟨by rw [hne.out]; rfl, bthen' hW hb2⟩
      · obtain rfl : k = A.length := by omega
        have hAB := Lib.hid (show decide (A = B) = true from decide_eq_true (by have := HE.out; rw [List.take_length, ← hlen2, List.take_length] at this; exact this))
        clear HE
        go_wp2_with fail
        go_ret
        exact ⟨by rw [hAB.out]; rfl, hW⟩
  · have hne := Lib.hid (show decide (A = B) = false from decide_eq_false (fun e => hlen (by rw [e])))
    clear ha hb
    have hlb : (((A.length : Nat) : Int) != ((B.length : Nat) : Int)) = true := by simp; omega
    clear hlen
    go_enter Try.func14, Try.ntmps14
    go_wp2_with fail
    go_ret
    exact ⟨by rw [hne.out]; rfl, Below.refl _ _⟩


set_option maxRecDepth 100000 in
set_option maxHeartbeats 1000000 in
theorem texts_any (w : World) (va vb : Value) (A B : List _) (ha : Reads strR w va A) (hb : Reads strR w vb B) (hbig : A.length ≤ 1000000) :
    Calls Try.prog 12 #[va, vb] w fun e w' => e = .returned (.bool (decide (A = B))) ∧ Below w.heap.size w w' := by
  obtain ⟨aa, capa, rfl⟩ := ha.form
  obtain ⟨ab, capb, rfl⟩ := hb.form
  by_cases hlen : A.length = B.length
  · have hlen2 := hlen.symm
    clear hlen
    have HA := Lib.hid ha
    have HB := Lib.hid hb
    clear ha hb
    go_enter Try.func12, Try.ntmps12
    go_wp2_with fail
    go_loopw [5] (fun i wr => ∃ k : Nat, k ≤ A.length ∧ i = .int .i64 k ∧ Below w.heap.size w wr ∧ A.take k = B.take k) (fun i _ => A.length - (intOf i).toNat)
    case atStart => exact ⟨0, by omega, rfl, Below.refl _ _, by simp⟩
    case round =>
      obtain ⟨k, hk, rfl, hW, hE⟩ := hrel
      have HE := Lib.hid hE
      clear hE
      by_cases hlt : k < A.length
      · obtain ⟨x, hx⟩ : ∃ x, A[k]? = some x := ⟨_, List.getElem?_eq_getElem hlt⟩
        obtain ⟨y, hy⟩ : ∃ y, B[k]? = some y := ⟨_, List.getElem?_eq_getElem (by omega)⟩
        obtain ⟨b1, o1, rfl, r1⟩ := (HA.out.below hW).at hx
        obtain ⟨b2, o2, rfl, r2⟩ := (HB.out.below hW).at hy
        have HX := Lib.hid hx
        have HY := Lib.hid hy
        have d1 := fun (z : Later wr) => z.cell (show wr.cell? ⟨b1, o1 + k, none⟩ = some (strR.val x) from by have := r1 0 _ rfl; simpa [strR] using this)
        have d2 := fun (z : Later wr) => z.cell (show wr.cell? ⟨b2, o2 + k, none⟩ = some (strR.val y) from by have := r2 0 _ rfl; simpa [strR] using this)
        simp only [strR] at d1 d2
        clear hx hy r1 r2
        go_wp2_with fail
        refine wp_region_later (by kernel_rfl) (by kernel_rfl) (Below.refl _ _) ?_
        repeat (first
          | go_big_quiet_skip
          | (go_big_quiet_want; first
            | (go_big_quiet_op; go_big_quiet_on)))
        refine wpQuiet_nil ?_
        rintro ⟨W2, hb2⟩
        dsimp only
        clear d1 d2
        by_cases hxy : x = y
        · have HE2 := Lib.hid (take_eq_of HE.out HX.out HY.out hxy)
          have hxyb : (x.toList == y.toList) = true := by rw [beq_iff_eq, bytes_inj]; exact hxy
          clear HX HY HE
          clear hxy
          rw [hxyb]
          go_wp2_with fail
          go_roundw
          case rel => exact ⟨k + 1, by omega, by go_num, bthen' hW hb2, HE2.out⟩
          case measure => simp [intOf]; omega
        · have hne := Lib.hid (show decide (A = B) = false from decide_eq_false (fun e => hxy (by
            have h1 := HX.out
            rw [e, HY.out] at h1
            exact (Option.some.inj h1).symm)))
          have hxyb : (x.toList == y.toList) = false := by rw [beq_eq_false_iff_ne, Ne, bytes_inj]; exact hxy
          clear hxy HX HY HE
          rw [hxyb]
          go_wp2_with fail
          go_ret
          exact ⟨by rw [hne.out]; rfl, bthen' hW hb2⟩
      · obtain rfl : k = A.length := by omega
        have hAB := Lib.hid (show decide (A = B) = true from decide_eq_true (by have := HE.out; rw [List.take_length, ← hlen2, List.take_length] at this; exact this))
        clear HE
        go_wp2_with fail
        go_ret
        exact ⟨by rw [hAB.out]; rfl, hW⟩
  · have hne := Lib.hid (show decide (A = B) = false from decide_eq_false (fun e => hlen (by rw [e])))
    clear ha hb
    have hlb : (((A.length : Nat) : Int) != ((B.length : Nat) : Int)) = true := by simp; omega
    clear hlen
    go_enter Try.func12, Try.ntmps12
    go_wp2_with fail
    go_ret
    exact ⟨by rw [hne.out]; rfl, Below.refl _ _⟩


/-! ### the plain law -/
/-- Which error, of a name and an operation. -/
def mayv (room : Int) (L : List Wat) (nm : Bool) (x : Wat) : Int := if nm = false then 5 else if x.op < 1 then 1 else if x ∈ L then 8 else if room ≤ L.length then 9 else 0

end Go.Proofs.Ytbghodknnejihaa
