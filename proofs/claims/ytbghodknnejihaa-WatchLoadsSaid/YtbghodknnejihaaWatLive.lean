/- The reference's Right; the page's example. -/
import Derived.Test.YtbghodknnejihaaWatAdd
set_option linter.unusedVariables false
namespace Go.Proofs.Ytbghodknnejihaa
open Go.RowKit

theorem num_any (w : World) (n : Int) : Calls Try.prog 8 #[.int .i64 n] w fun e w' => e = .returned (.int .i64 n) ∧ w = w' := by
  go_enter Try.func8, Try.ntmps8
  go_wp2_with fail
  go_ret
  exact ⟨rfl, rfl⟩

set_option maxRecDepth 100000 in
set_option maxHeartbeats 4000000 in
theorem refRight_any (w : World) (room : Int) (v : Value) (L : List Wat) (hv : Reads watR w v L) (hs : ∀ x ∈ L, x.name.size ≤ 9223372036854775807) (hbig : L.length < 100000) :
    Calls Try.prog 17 #[.int .i64 room, v] w fun e w' => e = .returned (.bool (rightv room L)) ∧ Below w.heap.size w w' := by
  obtain ⟨av, capv, rfl⟩ := hv.form
  have HV := Lib.hid hv
  have HS := Lib.hid hs
  clear hv hs
  by_cases hr : room < 0
  · have hR := Lib.hid (show rightv room L = false from by unfold rightv; simp; omega)
    go_enter Try.func17, Try.ntmps17
    go_wp2_with fail
    go_ret
    exact ⟨ret_bool hR.out.symm, Below.refl _ _⟩
  · have hRV := Lib.hid (show rightv room L = rightF room [] L from by unfold rightv; simp; omega)
    have hO1 := Owns.made (R := watR) (B := w.heap.size) (w := w) (Nat.le_refl _)
    have hb1 : Below w.heap.size w (w.alloc (.cells #[] watR.ty)) := (Below.refl _ _).alloc (Nat.le_refl _) _
    go_enter Try.func17, Try.ntmps17
    go_wp2_with fail
    go_loopw [5, 6] (fun u i wr => ∃ k : Nat, k ≤ L.length ∧ i = .int .i64 k ∧ Below w.heap.size w wr ∧ Owns watR w.heap.size wr u (L.take k) ∧ LoadRest room L k) (fun u i _ => L.length - (intOf i).toNat)
    case atStart => exact ⟨0, by omega, rfl, hb1, hO1, LoadRest.start _ _⟩
    case round =>
      clear hb1 hO1
      obtain ⟨k, hk, rfl, hW, hO, hR⟩ := hrel
      have HR := Lib.hid hR
      have HO := Lib.hid hO
      have hwr := hW.size
      clear hR hO
      by_cases hlt : k < L.length
      · obtain ⟨x, hx⟩ : ∃ x, L[k]? = some x := ⟨_, List.getElem?_eq_getElem hlt⟩
        obtain ⟨b, off, rfl, hr2⟩ := (HV.out.below hW).at hx
        have HX := Lib.hid hx
        have hlk : (L.take k).length = k := by simp; omega
        have hsx := HS.out x (List.mem_of_getElem? hx)
        clear hx
        by_cases h0 : mayv room (L.take k) (nameB x.name.data.toList) x = 0
        · have HR2 := Lib.hid (HR.out.step HX.out h0)
          have H0 := Lib.hid h0
          have T := Lib.hid (take_snoc HX.out)
          clear h0
          go_wp2_with (first
            | (refine wpList_load_mid rfl 28 _ rfl b (off + k * watR.n) rfl (watR.cells x) _ hr2 Try.underlying28 rfl (watOk.row x) ?_)
            | (go_at_call 7; refine (refAdd_yes wr room u5 (L.take k) (HO.out.lts watOk) x hsx (by omega) H0.out).mono ?_; rintro e W4 ⟨u4, rfl, hb4, hO4⟩))
          rw [T.out] at hO4
          go_roundw
          case rel => exact ⟨k + 1, by omega, by go_num, bthen' hW hb4, hO4.mono hwr, HR2.out⟩
          case measure => simp [intOf]; omega
        · have HR2 := Lib.hid (HR.out.bad HX.out h0)
          obtain ⟨c, hc⟩ : ∃ c, mayv room (L.take k) (nameB x.name.data.toList) x = c := ⟨_, rfl⟩
          have kA := refAdd_no wr room u5 (L.take k) (HO.out.lts watOk) x hsx (by omega) h0
          rw [hc] at h0 kA
          have KA := Lib.hid kA
          have hcb : (c != 0) = true := by simpa using h0
          clear h0 hc kA
          go_wp2_with (first
            | (refine wpList_load_mid rfl 28 _ rfl b (off + k * watR.n) rfl (watR.cells x) _ hr2 Try.underlying28 rfl (watOk.row x) ?_)
            | (go_at_call 7; refine KA.out.mono ?_; rintro e W4 ⟨rfl, hb4⟩))
          go_ret
          exact ⟨ret_bool (by rw [hRV.out, HR2.out]), bthen' hW hb4⟩
      · obtain rfl : k = L.length := by omega
        have HE := Lib.hid (HR.out.done)
        clear HR HO
        go_wp2_with fail
        go_ret
        exact ⟨ret_bool (by rw [hRV.out, HE.out]), hW⟩

theorem one_reads {α : Type} {R : Rec α} {w : World} {b c : Nat} {x : α} (h : w.rangeAt b 0 (R.cells x)) : Reads R w (.slice (some ⟨b, 0, none⟩) 1 c) [x] :=
  .inr ⟨b, 0, c, rfl, fun i y hy => by
    cases i with
    | zero => simp at hy; subst hy; simpa using h
    | succ i => simp at hy⟩
theorem two_strings (w : World) (a b : ByteArray) : Reads strR (w.alloc (.cells #[.string a, .string b] 9)) (.slice (some ⟨w.heap.size, 0, none⟩) 2 2) [a, b] := by
  refine .inr ⟨w.heap.size, 0, 2, rfl, fun i x hx j v hv => ?_⟩
  rw [cell_of_row _ w.heap.size _ _ 9 (0, 0) (heap_alloc_new _ _)]
  have hj : j = 0 ∧ v = .string x := by
    cases j with
    | zero => simp [Rec.cells, strR, Value.cells] at hv; exact ⟨rfl, hv.symm⟩
    | succ j => simp [Rec.cells, strR, Value.cells] at hv
  obtain ⟨rfl, rfl⟩ := hj
  match i, hx with
  | 0, hx => simp at hx; subst hx; rfl
  | 1, hx => simp at hx; subst hx; rfl
def wa (n : UInt8) (op : Int) : Wat := ⟨⟨#[n]⟩, op⟩

theorem Owns.outF {α : Type} {R : Rec α} (k : R.Ok) {B : Nat} {w : World} {v : Value} {L : List α} (h : Owns R B w v L) (F : List Nat) (hF : ∀ g, v.ownBlock = some g → g ∉ F) : ReadsOut R F w v L := by
  rcases h.nilOf with ⟨rfl, rfl⟩ | ⟨g, cap, rfl, hg, hgl⟩
  · exact .inl ⟨rfl, none, 0, rfl⟩
  · rcases h.lts k with ⟨h0, a, c, e⟩ | ⟨b, off, c, e, hr⟩
    · exact .inl ⟨h0, a, c, by rw [← e]⟩
    · have e2 := e
      simp only [Value.slice.injEq] at e2
      obtain ⟨e3, _, _⟩ := e2
      have e4 : g = b := by simpa using congrArg (fun (o : Option Addr) => o.map (·.block)) e3
      subst e4
      exact .inr ⟨g, off, c, e, hF g rfl, hr⟩

set_option maxRecDepth 100000 in
set_option maxHeartbeats 4000000 in
theorem live34_any (w : World) : Calls Try.prog 6 #[] w fun e w' => e = .returned (.bool true) ∧ Below w.heap.size w w' := by
  have e1 : mayv 3 [] (nameB (wa 97 1).name.data.toList) (wa 97 1) = 0 := by decide +kernel
  have e2 : mayv 3 [wa 97 1] (nameB (wa 98 1).name.data.toList) (wa 98 1) = 0 := by decide +kernel
  have e3 : mayv 3 [wa 97 1, wa 98 1] (nameB (wa 97 2).name.data.toList) (wa 97 2) = 0 := by decide +kernel
  have e4 : (yesv 1 [wa 97 1, wa 98 1, wa 97 2]).map Wat.name = [⟨#[97]⟩, ⟨#[98]⟩] := by decide +kernel
  have e5 : nov 1 [wa 97 1, wa 98 1, wa 97 2] = [wa 97 2] := by decide +kernel
  have E1 := Lib.hid e1
  have E2 := Lib.hid e2
  have E3 := Lib.hid e3
  have E4 := Lib.hid e4
  have E5 := Lib.hid e5
  clear e1 e2 e3 e4 e5
  go_enter Try.func6, Try.ntmps6
  go_wp2_with fail
  go_at_call 5; refine (new_any _ 3 (by omega)).mono ?_; rintro e W1 ⟨p, rfl, hb1, hD1⟩
  have hs1 := hb1.size
  go_wp2_with fail
  go_at_call 10; refine (add_yes W1 w.heap.size p 3 _ [] hD1 (wa 97 1) (by decide) (by simp) E1.out hs1).mono ?_; rintro e W2 ⟨rfl, v2, hU2, hD2, hF2⟩
  have hs2 := hU2.size
  go_wp2_with fail
  go_at_call 10; refine (add_yes W2 w.heap.size p 3 _ _ hD2 (wa 98 1) (by decide) (by simp) E2.out (by omega)).mono ?_; rintro e W3 ⟨rfl, v3, hU3, hD3, hF3⟩
  have hs3 := hU3.size
  go_wp2_with fail
  go_at_call 10; refine (add_yes W3 w.heap.size p 3 _ _ hD3 (wa 97 2) (by decide) (by simp) E3.out (by omega)).mono ?_; rintro e W4 ⟨rfl, v4, hU4, hD4, hF4⟩
  replace hD4 : DeskAt w.heap.size W4 p 3 v4 [wa 97 1, wa 98 1, wa 97 2] := hD4
  have hs4 := hU4.size
  have hW4 := Lib.hid (hU4.toBelow (hU3.toBelow (hU2.toBelow hb1 hs1 (fun i hi => (hD1.lt i hi).1)) (by omega) (fun i hi => (hD2.lt i hi).1)) (by omega) (fun i hi => (hD3.lt i hi).1))
  go_wp2_with (go_at_call 8; refine (num_any _ _).mono ?_; rintro e w' ⟨rfl, rfl⟩)
  go_at_call 13; refine (take_any W4 w.heap.size p 3 v4 [wa 97 1, wa 98 1, wa 97 2] hD4 1 (by simp) (by omega)).mono ?_; rintro e W5 ⟨out, rfl, ⟨v5, hU5, hD5, hF5⟩, hO5, hN5⟩
  have hs5 := hU5.size
  have hW5 := hU5.toBelow hW4.out (by omega) (fun i hi => (hD4.lt i hi).1)
  replace hD5 : DeskAt w.heap.size W5 p 3 v5 [wa 97 2] := by rw [← E5.out]; exact hD5
  replace hO5 : Owns strR W4.heap.size W5 out [⟨#[97]⟩, ⟨#[98]⟩] := by rw [← E4.out]; exact hO5
  have hT5 := two_strings W5 ⟨#[97]⟩ ⟨#[98]⟩
  have hb6 : Below W5.heap.size W5 (W5.alloc (.cells #[.string ⟨#[97]⟩, .string ⟨#[98]⟩] 9)) := (Below.refl _ _).alloc (Nat.le_refl _) _
  have HO5 := Lib.hid ((hO5.lts strOk).below hb6)
  clear hO5
  go_wp2_with (first
    | (go_at_call 12; refine (texts_any _ _ _ _ _ HO5.out hT5 (by simp)).mono ?_; rintro e W7 ⟨rfl, hb7⟩)
    | (go_at_call 15; refine (all_any W7 w.heap.size p 3 v5 _ ((hD5.below hb6).below hb7) (by simp)).mono ?_; rintro e W8 ⟨v8, rfl, hb8, hO8⟩; have hx9 : (W8.alloc (.cells #[.string ⟨#[97]⟩, .int .i64 2] 28)).rangeAt W8.heap.size 0 (watR.cells (wa 97 2)) := built_range (R := watR) (wa 97 2); have hb9 : Below W8.heap.size W8 (W8.alloc (.cells #[.string ⟨#[97]⟩, .int .i64 2] 28)) := (Below.refl _ _).alloc (Nat.le_refl _) _)
    | (go_at_call 14; refine (sameWat_any _ _ _ [wa 97 2] [wa 97 2] ((hO8.lts watOk).below hb9) (one_reads hx9) (by simp)).mono ?_; rintro e W10 ⟨rfl, hb10⟩))
  go_ret
  exact ⟨rfl, bthen' (bthen' (bthen' (bthen' (bthen' hW5 hb6) hb7) hb8) hb9) hb10⟩

end Go.Proofs.Ytbghodknnejihaa
