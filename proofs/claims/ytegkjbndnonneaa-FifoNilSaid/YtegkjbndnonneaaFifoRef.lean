/- The contracts of the reference's functions on queues. -/
import Derived.Test.YtegkjbndnonneaaFifoLaw
set_option linter.unusedVariables false
namespace Go.Proofs.Ytegkjbndnonneaa
open Go.RowKit

theorem take_eq_of {α : Type} {A B : List α} {k : Nat} (h : A.take k = B.take k) {x y : α} (hx : A[k]? = some x) (hy : B[k]? = some y) (e : x = y) : A.take (k + 1) = B.take (k + 1) := by
  rw [← take_snoc hx, ← take_snoc hy, h, e]

theorem quiet_load_mid {P : Program} {C : World → Prop} {K : Act → Prop} {a : Act} {o : Oper} (ty : TypeId) (x : Operand) (ho : o.op = .load ty x)
    (b off : Nat) (hx : a.eval x = .pointer (some ⟨b, off, none⟩)) (cs : List Value) (d : TypeDesc) (hr : ∀ w, C w → w.rangeAt b off cs)
    (hu : P.underlying ty = some d) (hd : d.isRow = true) (hi : (P.info? ty).map (·.size) = some cs.length)
    (h : K (a.put o.dst (.agg cs.toArray))) : o.quiet P a C K :=
  ⟨.agg cs.toArray, fun w hw => by
    unfold Oper.quietAt execOp
    simp only [ho, hx, Instr.loadAt, Instr.sureAddr, Sem.run_bind, Sem.run_pure, Result.andThen_ok, run_loadVar_mid w b off ty cs d (hr w hw) hu hd hi]
    trivial, h⟩

theorem num14_any (w : World) (n : Int) : Calls Try.prog 8 #[.int .i64 n] w fun e w' => e = .returned (.int .i64 n) ∧ w = w' := by
  go_enter Try.func8, Try.ntmps8
  go_wp2_with fail
  go_ret
  exact ⟨rfl, rfl⟩
theorem drop_cons {α : Type} {L : List α} {k : Nat} {x : α} (hx : L[k]? = some x) : L.drop k = x :: L.drop (k + 1) := by
  have hk : k < L.length := (List.getElem?_eq_some_iff.1 hx).1
  rw [List.drop_eq_getElem_cons hk]
  rw [List.getElem?_eq_getElem hk] at hx
  rw [Option.some.inj hx]
def ixI (id : Int) : List It → Nat → Int
  | [], _ => -1
  | t :: r, i => if t.id = id then (i : Int) else ixI id r (i + 1)
def IxRest (id : Int) (T : List It) (k : Nat) : Prop := ixI id T 0 = ixI id (T.drop k) k
theorem IxRest.start (id : Int) (T : List It) : IxRest id T 0 := rfl
theorem IxRest.step {id : Int} {T : List It} {k : Nat} {x : It} (h : IxRest id T k) (hx : T[k]? = some x) (h1 : ¬ x.id = id) : IxRest id T (k + 1) := by
  unfold IxRest at *
  rw [h, drop_cons hx, ixI, if_neg h1]
theorem IxRest.hit {id : Int} {T : List It} {k : Nat} {x : It} (h : IxRest id T k) (hx : T[k]? = some x) (h1 : x.id = id) : ixI id T 0 = k := by
  unfold IxRest at *
  rw [h, drop_cons hx, ixI, if_pos h1]
theorem IxRest.done {id : Int} {T : List It} (h : IxRest id T T.length) : ixI id T 0 = -1 := by
  unfold IxRest at h
  rw [h]; simp [ixI]

set_option maxRecDepth 100000 in
set_option maxHeartbeats 1000000 in
theorem find_any (w : World) (v : Value) (L : List It) (hv : Reads itR w v L) (hbig : L.length ≤ 1000000) (id : Int) :
    Calls Try.prog 12 #[v, .int .i64 id] w fun e w' => e = .returned (.int .i64 (ixI id L 0)) ∧ w = w' := by
  obtain ⟨av, capv, rfl⟩ := hv.form
  have HV := Lib.hid hv
  clear hv
  go_enter Try.func12, Try.ntmps12
  go_wp2_with fail
  go_loop [5] (fun i => ∃ k : Nat, k ≤ L.length ∧ i = .int .i64 k ∧ IxRest id L k) (fun i => L.length - (intOf i).toNat)
  case atStart => exact ⟨0, by omega, rfl, IxRest.start id L⟩
  case round =>
    obtain ⟨k, hk, rfl, hno⟩ := hrel
    have HN := Lib.hid hno
    clear hno
    by_cases hlt : k < L.length
    · obtain ⟨y, hy⟩ : ∃ y, L[k]? = some y := ⟨_, List.getElem?_eq_getElem hlt⟩
      obtain ⟨b, off, rfl, hr⟩ := HV.out.at hy
      have m0 : w.cell? ⟨b, off + k * 2, none⟩ = some (.int .i64 y.id) := by show w.cell? ⟨b, off + k * itR.n, none⟩ = _; simpa using hr 0 _ rfl
      clear hr
      by_cases ho : y.id = id
      · have HM := Lib.hid (HN.out.hit hy ho)
        have hob : (y.id == id) = true := by rw [beq_iff_eq]; exact ho
        clear HN hy ho
        go_wp2_with fail
        go_ret
        exact ⟨by rw [HM.out]; rfl, rfl⟩
      · have HM := Lib.hid (HN.out.step hy ho)
        have hob : (y.id == id) = false := by rw [beq_eq_false_iff_ne]; exact ho
        clear HN hy ho
        go_wp2_with fail
        go_round
        case rel => exact ⟨k + 1, by omega, by go_num, HM.out⟩
        case measure => simp [intOf]; omega
    · obtain rfl : k = L.length := by omega
      have HM := Lib.hid (HN.out.done)
      clear HN
      go_wp2_with fail
      go_ret
      exact ⟨by rw [HM.out]; rfl, rfl⟩

def costL : List It → Int
  | [] => 0
  | x :: r => x.cost + costL r
theorem costL_snoc (L : List It) (x : It) : costL (L ++ [x]) = costL L + x.cost := by
  induction L with
  | nil => simp [costL]
  | cons y r ih => simp only [List.cons_append, costL, ih]; omega
/-- Costs that are from 1 to 64. -/
def GoodIt (L : List It) : Prop := ∀ x ∈ L, 1 ≤ x.id ∧ 1 ≤ x.cost ∧ x.cost ≤ 64
theorem GoodIt.sum {L : List It} (h : GoodIt L) : 0 ≤ costL L ∧ costL L ≤ 64 * L.length := by
  induction L with
  | nil => simp [costL]
  | cons y r ih =>
    have h1 := h y (by simp)
    have h2 := ih (fun x hx => h x (by simp [hx]))
    simp only [costL, List.length_cons]
    omega
theorem GoodIt.take {L : List It} (h : GoodIt L) (k : Nat) : GoodIt (L.take k) := fun x hx => h x (List.mem_of_mem_take hx)

set_option maxRecDepth 100000 in
set_option maxHeartbeats 1000000 in
theorem refCost_any (w : World) (v : Value) (L : List It) (hv : Reads itR w v L) (hbig : L.length ≤ 1000000) (hg : GoodIt L) :
    Calls Try.prog 19 #[v] w fun e w' => e = .returned (.int .i64 (costL L)) ∧ w = w' := by
  obtain ⟨av, capv, rfl⟩ := hv.form
  have HV := Lib.hid hv
  have HG := Lib.hid hg
  clear hv hg
  go_enter Try.func19, Try.ntmps19
  go_wp2_with fail
  go_loop [3, 4] (fun s i => ∃ (k : Nat) (c : Int), k ≤ L.length ∧ i = .int .i64 k ∧ s = .int .i64 c ∧ costL (L.take k) = c) (fun _ i => L.length - (intOf i).toNat)
  case atStart => exact ⟨0, 0, by omega, rfl, rfl, rfl⟩
  case round =>
    obtain ⟨k, c, hk, rfl, rfl, hno⟩ := hrel
    have hs := (HG.out.take k).sum
    rw [hno, List.length_take] at hs
    have HN := Lib.hid hno
    clear hno
    by_cases hlt : k < L.length
    · obtain ⟨y, hy⟩ : ∃ y, L[k]? = some y := ⟨_, List.getElem?_eq_getElem hlt⟩
      obtain ⟨b, off, rfl, hr⟩ := HV.out.at hy
      have m0 : w.cell? ⟨b, off + k * 2 + 1, none⟩ = some (.int .i64 y.cost) := by show w.cell? ⟨b, off + k * itR.n + 1, none⟩ = _; simpa using hr 1 _ rfl
      obtain ⟨g1, g2, g3⟩ := HG.out y (List.mem_of_getElem? hy)
      have HM := Lib.hid (show costL (L.take (k + 1)) = c + y.cost from by rw [← take_snoc hy, costL_snoc, HN.out])
      clear hr HN hy
      go_wp2_with fail
      go_round
      case rel => exact ⟨k + 1, c + y.cost, by omega, by go_num, by go_num, HM.out⟩
      case measure => simp [intOf]; omega
    · obtain rfl : k = L.length := by omega
      have HM := Lib.hid (show costL L = c from by have := HN.out; rwa [List.take_length] at this)
      clear HN
      go_wp2_with fail
      go_ret
      exact ⟨by rw [HM.out]; rfl, rfl⟩

def keepB (id : Int) (x : It) : Bool := x.id != id
def dropv (id : Int) (L : List It) : List It := L.filter (keepB id)
/-- A list of its own is handed back. -/
def Gives (w : World) (L : List It) (e : Ending) (w' : World) : Prop := ∃ v, e = .returned v ∧ Below w.heap.size w w' ∧ Owns itR w.heap.size w' v L

set_option maxRecDepth 100000 in
set_option maxHeartbeats 4000000 in
theorem refDrop_any (w : World) (v : Value) (L : List It) (hv : Reads itR w v L) (hbig : L.length < 1000000) (id : Int) :
    Calls Try.prog 13 #[v, .int .i64 id] w (Gives w (dropv id L)) := by
  obtain ⟨av, capv, rfl⟩ := hv.form
  have HV := Lib.hid hv
  clear hv
  have hO1 := Owns.made (R := itR) (B := w.heap.size) (w := w) (Nat.le_refl _)
  have hb1 : Below w.heap.size w (w.alloc (.cells #[] itR.ty)) := (Below.refl _ _).alloc (Nat.le_refl _) _
  go_enter Try.func13, Try.ntmps13
  go_wp2_with fail
  go_loopw [5, 6] (fun n i wr => ∃ k : Nat, k ≤ L.length ∧ i = .int .i64 k ∧ Below w.heap.size w wr ∧ Owns itR w.heap.size wr n (dropv id (L.take k))) (fun n i _ => L.length - (intOf i).toNat)
  case atStart => exact ⟨0, by omega, rfl, hb1, hO1⟩
  case round =>
    clear hO1 hb1
    obtain ⟨k, hk, rfl, hW, hO2⟩ := hrel
    have HO2 := Lib.hid hO2
    have hwr := hW.size
    clear hO2
    by_cases hlt : k < L.length
    · obtain ⟨x, hx⟩ : ∃ x, L[k]? = some x := ⟨_, List.getElem?_eq_getElem hlt⟩
      obtain ⟨b, off, rfl, hr⟩ := (HV.out.below hW).at hx
      have HX := Lib.hid hx
      have hl2 : (dropv id (L.take k)).length ≤ k := by
        have := List.length_filter_le (keepB id) (L.take k)
        unfold dropv
        simp at this ⊢; omega
      have m0 : wr.cell? ⟨b, off + k * 2, none⟩ = some (.int .i64 x.id) := by show wr.cell? ⟨b, off + k * itR.n, none⟩ = _; simpa using hr 0 _ rfl
      clear hx
      cases hq : keepB id x with
      | false =>
        have hq2 : (x.id != id) = false := hq
        have T2 := Lib.hid (show dropv id (L.take k) = dropv id (L.take (k + 1)) from by rw [← take_snoc HX.out]; simp [dropv, hq])
        clear hq
        go_wp2_with fail
        go_roundw
        case rel => exact ⟨k + 1, by omega, by go_num, hW, by rw [← T2.out]; exact HO2.out⟩
        case measure => simp [intOf]; omega
      | true =>
        have hq2 : (x.id != id) = true := hq
        have T1 := Lib.hid (show dropv id (L.take k) ++ [x] = dropv id (L.take (k + 1)) from by rw [← take_snoc HX.out]; simp [dropv, hq])
        clear hq
        go_wp2_with (first
          | (refine wpList_load_mid rfl 32 _ rfl b (off + k * itR.n) rfl (itR.cells x) _ hr Try.underlying32 rfl (itOk.row x) ?_)
          | (refine wl_build_rec itOk rfl _ rfl x rfl ?_; have hx5 := built_range (R := itR) (w := wr) x; have hb5 : Below wr.heap.size wr (wr.alloc (.cells (itR.val x).cells itR.ty)) := (Below.refl _ _).alloc (Nat.le_refl _) _; generalize wr.alloc (.cells (itR.val x).cells itR.ty) = W5 at hx5 hb5 ⊢; have hOo := HO2.out.below hb5; have hszT := hb5.size)
          | (refine wl_append_rec itOk rfl _ _ rfl w.heap.size u5 (dropv id (L.take k)) rfl hOo wr.heap.size 0 1 x rfl hx5 (by omega) (by omega) ?_; intro g cap W6 hO6 hg6 hat6))
        rw [T1.out] at hO6
        have hW6 := (bthen' hW hb5).grown hg6 (by omega) (fun k hk => (hOo.lt k hk).1)
        go_roundw
        case rel => exact ⟨k + 1, by omega, by go_num, hW6, hO6⟩
        case measure => simp [intOf]; omega
    · obtain rfl : k = L.length := by omega
      have hO := HO2.out
      rw [List.take_length] at hO
      have HO := Lib.hid hO
      clear HO2 hO
      go_wp2_with fail
      go_ret
      exact ⟨_, rfl, hW, HO.out⟩

set_option maxRecDepth 100000 in
set_option maxHeartbeats 1000000 in
theorem same_any (w : World) (va vb : Value) (A B : List _) (ha : Reads itR w va A) (hb : Reads itR w vb B) (hbig : A.length ≤ 1000000) :
    Calls Try.prog 15 #[va, vb] w fun e w' => e = .returned (.bool (decide (A = B))) ∧ Below w.heap.size w w' := by
  obtain ⟨aa, capa, rfl⟩ := ha.form
  obtain ⟨ab, capb, rfl⟩ := hb.form
  by_cases hlen : A.length = B.length
  · have hlen2 := hlen.symm
    clear hlen
    have HA := Lib.hid ha
    have HB := Lib.hid hb
    clear ha hb
    go_enter Try.func15, Try.ntmps15
    go_wp2_with fail
    go_loopw [5] (fun i wr => ∃ k : Nat, k ≤ A.length ∧ i = .int .i64 k ∧ Below w.heap.size w wr ∧ A.take k = B.take k) (fun i _ => A.length - (intOf i).toNat)
    case atStart => exact ⟨0, by omega, rfl, Below.refl _ _, by simp⟩
    case round =>
      obtain ⟨k, hk, rfl, hW, hE⟩ := hrel
      have HE := Lib.hid hE
      clear hE
      by_cases hlt : k < A.length
      · obtain ⟨x, hx⟩ : ∃ x, A[k]? = some x := ⟨_, List.getElem?_eq_getElem hlt⟩
        obtain ⟨y, hy⟩ : ∃ y, B[k]? = some y := ⟨_, List.getElem?_eq_getElem (by omega)⟩
        obtain ⟨b1, o1, rfl, r1⟩ := (HA.out.below hW).at hx
        obtain ⟨b2, o2, rfl, r2⟩ := (HB.out.below hW).at hy
        have HX := Lib.hid hx
        have HY := Lib.hid hy
        have R1 := Lib.hid (fun (w' : World) (hx : ∃ x : Later wr, w' = x.w) => (show w'.rangeAt b1 (o1 + k * itR.n) (itR.cells x) from by obtain ⟨z, rfl⟩ := hx; exact below_range z.h r1))
        have R2 := Lib.hid (fun (w' : World) (hx : ∃ x : Later wr, w' = x.w) => (show w'.rangeAt b2 (o2 + k * itR.n) (itR.cells y) from by obtain ⟨z, rfl⟩ := hx; exact below_range z.h r2))
        clear hx hy r1 r2
        have hsame := fun w => it_eq 9998 x y w
        have hguard := itGuard
        go_wp2_with fail
        refine wp_region_later (by kernel_rfl) (by kernel_rfl) (Below.refl _ _) ?_
        repeat (first
          | go_big_quiet_skip
          | (go_big_quiet_want; first
            | (refine quiet_load_mid 32 _ rfl b1 (o1 + k * itR.n) rfl (itR.cells x) _ R1.out Try.underlying32 rfl (itOk.row x) ?_; simp only [Act.put, List.setIfInBounds_toArray, List.set_cons_succ, List.set_cons_zero]; go_big_quiet_on)
            | (refine quiet_load_mid 32 _ rfl b2 (o2 + k * itR.n) rfl (itR.cells y) _ R2.out Try.underlying32 rfl (itOk.row y) ?_; simp only [Act.put, List.setIfInBounds_toArray, List.set_cons_succ, List.set_cons_zero]; go_big_quiet_on)
            | (go_big_quiet_op; go_big_quiet_on)))
        refine wpQuiet_nil ?_
        rintro ⟨W2, hb2⟩
        dsimp only
        clear hsame hguard R1 R2
        by_cases hxy : x = y
        · have HE2 := Lib.hid (take_eq_of HE.out HX.out HY.out hxy)
          have hxyb : decide (x = y) = true := decide_eq_true hxy
          clear HX HY HE
          clear hxy
          rw [hxyb]
          go_wp2_with fail
          go_roundw
          case rel => exact ⟨k + 1, by omega, by go_num, bthen' hW hb2, HE2.out⟩
          case measure => simp [intOf]; omega
        · have hne := Lib.hid (show decide (A = B) = false from decide_eq_false (fun e => hxy (by
            have h1 := HX.out
            rw [e, HY.out] at h1
            exact (Option.some.inj h1).symm)))
          have hxyb : decide (x = y) = false := decide_eq_false hxy
          clear hxy HX HY HE
          rw [hxyb]
          go_wp2_with fail
          go_ret
          exact ⟨by rw [hne.out]; rfl, bthen' hW hb2⟩
      · obtain rfl : k = A.length := by omega
        have hAB := Lib.hid (show decide (A = B) = true from decide_eq_true (by have := HE.out; rw [List.take_length, ← hlen2, List.take_length] at this; exact this))
        clear HE
        go_wp2_with fail
        go_ret
        exact ⟨by rw [hAB.out]; rfl, hW⟩
  · have hne := Lib.hid (show decide (A = B) = false from decide_eq_false (fun e => hlen (by rw [e])))
    clear ha hb
    have hlb : (((A.length : Nat) : Int) != ((B.length : Nat) : Int)) = true := by simp; omega
    clear hlen
    go_enter Try.func15, Try.ntmps15
    go_wp2_with fail
    go_ret
    exact ⟨by rw [hne.out]; rfl, Below.refl _ _⟩

end Go.Proofs.Ytegkjbndnonneaa
