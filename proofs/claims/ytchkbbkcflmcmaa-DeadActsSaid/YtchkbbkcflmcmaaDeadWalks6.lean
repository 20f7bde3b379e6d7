/- The contracts of dead's functions, going on: Load; the reference's Letters. -/
import Derived.Test.YtchkbbkcflmcmaaDeadWalks5
set_option linter.unusedVariables false
namespace Go.Proofs.Ytchkbbkcflmcmaa
open Go.RowKit

theorem quiet_load_mid {P : Program} {C : World → Prop} {K : Act → Prop} {a : Act} {o : Oper} (ty : TypeId) (x : Operand) (ho : o.op = .load ty x)
    (b off : Nat) (hx : a.eval x = .pointer (some ⟨b, off, none⟩)) (cs : List Value) (d : TypeDesc) (hr : ∀ w, C w → w.rangeAt b off cs)
    (hu : P.underlying ty = some d) (hd : d.isRow = true) (hi : (P.info? ty).map (·.size) = some cs.length)
    (h : K (a.put o.dst (.agg cs.toArray))) : o.quiet P a C K :=
  ⟨.agg cs.toArray, fun w hw => by
    unfold Oper.quietAt execOp
    simp only [ho, hx, Instr.loadAt, Instr.sureAddr, Sem.run_bind, Sem.run_pure, Result.andThen_ok, run_loadVar_mid w b off ty cs d (hr w hw) hu hd hi]
    trivial, h⟩

theorem Lts.form {w : World} {v : Value} {L : List Let} (h : Lts w v L) : ∃ a cap, v = .slice a L.length cap := by
  rcases h with ⟨rfl, a, cap, rfl⟩ | ⟨b, off, cap, rfl, _⟩
  · exact ⟨a, cap, rfl⟩
  · exact ⟨_, cap, rfl⟩
theorem Lts.at {w : World} {a : Option Addr} {n cap : Nat} {L : List Let} (h : Lts w (.slice a n cap) L) {k : Nat} {x : Let} (hx : L[k]? = some x) : ∃ b off, a = some ⟨b, off, none⟩ ∧ w.rangeAt b (off + k * 6) x.cells := by
  rcases h with ⟨rfl, _⟩ | ⟨b, off, cap, hv, hr⟩
  · simp at hx
  · simp only [Value.slice.injEq] at hv
    exact ⟨b, off, hv.1, hr k x hx⟩

theorem load_no (w : World) (room : Int) (v : Value) (L : List Let) (hv : Lts w v L) (h1 : room ≤ 1024) (h : room < 1 ∨ room < L.length) :
    Calls Try.prog 15 #[.int .i64 room, v] w fun e w' => e = .returned (.tuple #[.pointer none, .bool false]) ∧ Below w.heap.size w w' := by
  obtain ⟨av, capv, rfl⟩ := hv.form
  by_cases h0 : room < 1
  · go_enter Try.func15, Try.ntmps15
    go_wp2_with (go_at_call 6; refine (new_none _ _ (by omega)).mono ?_; rintro e w' ⟨rfl, rfl⟩)
    go_ret2
    exact ⟨rfl, Below.refl _ _⟩
  · have h2 : room < L.length := by rcases h with h | h; exact absurd h h0; exact h
    obtain ⟨n, rfl⟩ := Int.eq_ofNat_of_zero_le (show 0 ≤ room by omega)
    go_enter Try.func15, Try.ntmps15
    go_wp2_with (go_at_call 6; refine (new_any _ n (by omega) (by omega)).mono ?_; rintro e w' ⟨p, g, rfl, hb, hp, hg, hB⟩)
    go_ret2
    exact ⟨rfl, hb⟩

set_option maxRecDepth 100000 in
set_option maxHeartbeats 1000000 in
theorem load_yes (w : World) (room : Nat) (v : Value) (L : List Let) (hv : Lts w v L) (h0 : 1 ≤ room) (h1 : room ≤ 1024) (h2 : L.length ≤ room) :
    Calls Try.prog 15 #[.int .i64 room, v] w fun e w' => ∃ p g, e = .returned (.tuple #[.pointer (some ⟨p, 0, none⟩), .bool true]) ∧ Below w.heap.size w w' ∧ w.heap.size ≤ p ∧ w.heap.size ≤ g ∧ BoxAt w' p g room 0 L := by
  obtain ⟨av, capv, rfl⟩ := hv.form
  have hd : ¬ room < L.length := by omega
  go_enter Try.func15, Try.ntmps15
  go_wp2_with (go_at_call 6; refine (new_any _ room h0 h1).mono ?_; rintro e W1 ⟨p, g, rfl, hb1, hp, hg, hB1⟩)
  go_loopw [21] (fun i wr => ∃ k : Nat, k ≤ L.length ∧ i = .int .i64 k ∧ Below w.heap.size w wr ∧ BoxAt wr p g room 0 (L.take k)) (fun i _ => L.length - (intOf i).toNat)
  case atStart => exact ⟨0, by omega, rfl, hb1, hB1⟩
  case round =>
    clear hB1 hb1
    obtain ⟨k, hk, rfl, hW, hB⟩ := hrel
    by_cases hlt : k < L.length
    · obtain ⟨x, hx⟩ : ∃ x, L[k]? = some x := ⟨_, List.getElem?_eq_getElem hlt⟩
      obtain ⟨b, off, rfl, hr2⟩ := (hv.below hW).at hx
      have T := Lib.hid (take_snoc hx)
      have hlk : (L.take k).length = k := by simp; omega
      have HB := Lib.hid hB
      clear hx hB
      go_wp2_with (first
        | (refine wpList_load_mid rfl 29 _ rfl b (off + k * 6) rfl x.cells _ hr2 Try.underlying29 rfl (letRow x) ?_)
        | (refine wpList_store_mid rfl 29 _ _ rfl wr.heap.size 0 x.cells.toArray rfl rfl (fresh_there wr x) (let_size' _) (let_one' _) ?_; show wpList _ _ _ _ _ (freshW wr x); have hx3 := fresh_range wr x; have hb3 := fresh_below wr x; have hs3 := fresh_size wr x; generalize freshW wr x = W3 at hx3 hb3 hs3 ⊢)
        | (refine wpList_load_mid rfl 29 _ rfl wr.heap.size 0 rfl x.cells _ hx3 Try.underlying29 rfl (letRow x) ?_)
        | (go_at_call 7; refine (put_room _ p g room 0 (L.take k) (HB.out.below hb3) x (by omega)).mono ?_; rintro e W4 ⟨rfl, hU4, hB4⟩))
      rw [T.out] at hB4
      have hW3 := bthen' hW hb3
      go_roundw
      case rel => exact ⟨k + 1, by omega, by go_num, hU4.toBelow hW3 hW3.size (by simp; omega), hB4⟩
      case measure => simp [intOf]; omega
    · obtain rfl : k = L.length := by omega
      rw [List.take_length] at hB
      have HB := Lib.hid hB
      clear hB
      go_wp2_with fail
      go_ret2
      exact ⟨p, g, rfl, hW, hp, hg, HB.out⟩

theorem letGuard : Try.prog.eqGuardType Try.prog.depth 29 = false := by kernel_rfl

theorem take_eq_of {α : Type} {A B : List α} {k : Nat} (h : A.take k = B.take k) {x y : α} (hx : A[k]? = some x) (hy : B[k]? = some y) (e : x = y) : A.take (k + 1) = B.take (k + 1) := by
  rw [← take_snoc hx, ← take_snoc hy, h, e]

set_option maxRecDepth 100000 in
set_option maxHeartbeats 1000000 in
theorem letters_any (w : World) (va vb : Value) (A B : List Let) (ha : Lts w va A) (hb : Lts w vb B) (hbig : A.length ≤ 1000000) :
    Calls Try.prog 11 #[va, vb] w fun e w' => e = .returned (.bool (decide (A = B))) ∧ Below w.heap.size w w' := by
  obtain ⟨aa, capa, rfl⟩ := ha.form
  obtain ⟨ab, capb, rfl⟩ := hb.form
  by_cases hlen : A.length = B.length
  · have hlen2 := hlen.symm
    clear hlen
    have HA := Lib.hid ha
    have HB := Lib.hid hb
    clear ha hb
    go_enter Try.func11, Try.ntmps11
    go_wp2_with fail
    go_loopw [5] (fun i wr => ∃ k : Nat, k ≤ A.length ∧ i = .int .i64 k ∧ Below w.heap.size w wr ∧ A.take k = B.take k) (fun i _ => A.length - (intOf i).toNat)
    case atStart => exact ⟨0, by omega, rfl, Below.refl _ _, by simp⟩
    case round =>
      obtain ⟨k, hk, rfl, hW, hE⟩ := hrel
      have HE := Lib.hid hE
      clear hE
      by_cases hlt : k < A.length
      · obtain ⟨x, hx⟩ : ∃ x, A[k]? = some x := ⟨_, List.getElem?_eq_getElem hlt⟩
        obtain ⟨y, hy⟩ : ∃ y, B[k]? = some y := ⟨_, List.getElem?_eq_getElem (by omega)⟩
        obtain ⟨b1, o1, rfl, r1⟩ := (HA.out.below hW).at hx
        obtain ⟨b2, o2, rfl, r2⟩ := (HB.out.below hW).at hy
        have HX := Lib.hid hx
        have HY := Lib.hid hy
        have R1 := Lib.hid (fun (w' : World) (hx : ∃ x : Later wr, w' = x.w) => (show w'.rangeAt b1 (o1 + k * 6) x.cells from by obtain ⟨z, rfl⟩ := hx; exact below_range z.h r1))
        have R2 := Lib.hid (fun (w' : World) (hx : ∃ x : Later wr, w' = x.w) => (show w'.rangeAt b2 (o2 + k * 6) y.cells from by obtain ⟨z, rfl⟩ := hx; exact below_range z.h r2))
        clear hx hy r1 r2
        have hsame := fun w => let_eq 9998 x y w
        have hguard := letGuard
        go_wp2_with fail
        refine wp_region_later (by kernel_rfl) (by kernel_rfl) (Below.refl _ _) ?_
        repeat (first
          | go_big_quiet_skip
          | (go_big_quiet_want; first
            | (refine quiet_load_mid 29 _ rfl b1 (o1 + k * 6) rfl x.cells _ R1.out Try.underlying29 rfl (letRow x) ?_; simp only [Act.put, List.setIfInBounds_toArray, List.set_cons_succ, List.set_cons_zero]; go_big_quiet_on)
            | (refine quiet_load_mid 29 _ rfl b2 (o2 + k * 6) rfl y.cells _ R2.out Try.underlying29 rfl (letRow y) ?_; simp only [Act.put, List.setIfInBounds_toArray, List.set_cons_succ, List.set_cons_zero]; go_big_quiet_on)
            | (go_big_quiet_op; go_big_quiet_on)))
        refine wpQuiet_nil ?_
        rintro ⟨W2, hb2⟩
        dsimp only
        clear hsame hguard R1 R2
        by_cases hxy : x = y
        · have HE2 := Lib.hid (take_eq_of HE.out HX.out HY.out hxy)
          have hxyb : decide (x = y) = true := decide_eq_true hxy
          clear HX HY HE
          clear hxy
          rw [hxyb]
          go_wp2_with fail
          go_roundw
          case rel => exact ⟨k + 1, by omega, by go_num, bthen' hW hb2, HE2.out⟩
          case measure => simp [intOf]; omega
        · have hxyb : decide (x = y) = false := decide_eq_false hxy
          have hne := Lib.hid (show decide (A = B) = false from decide_eq_false (fun e => hxy (by
            have h1 := HX.out
            rw [e, HY.out] at h1
            exact (Option.some.inj h1).symm)))
          clear hxy HX HY HE
          rw [hxyb]
          go_wp2_with fail
          go_ret
          exact ⟨by rw [hne.out]; rfl, bthen' hW hb2⟩
      · obtain rfl : k = A.length := by omega
        have hAB := Lib.hid (show decide (A = B) = true from decide_eq_true (by have := HE.out; rw [List.take_length, ← hlen2, List.take_length] at this; exact this))
        clear HE
        go_wp2_with fail
        go_ret
        exact ⟨by rw [hAB.out]; rfl, hW⟩
  · have hne := Lib.hid (show decide (A = B) = false from decide_eq_false (fun e => hlen (by rw [e])))
    clear ha hb
    have hlb : (((A.length : Nat) : Int) != ((B.length : Nat) : Int)) = true := by simp; omega
    clear hlen
    go_enter Try.func11, Try.ntmps11
    go_wp2_with fail
    go_ret
    exact ⟨by rw [hne.out]; rfl, Below.refl _ _⟩

end Go.Proofs.Ytchkbbkcflmcmaa
