/- Calls of a desk that came in; the walk of the statement on calls. -/
import Derived.Test.YtbghodknnejihaaWatLive
set_option linter.unusedVariables false
namespace Go.Proofs.Ytbghodknnejihaa
open Go.ChangeShapes Go.WideShapes Go.ChangeAt Go.RowKit Go.Deep

/-- A call of a desk. -/
structure Ac where
  kind : Int
  x : Wat
def acR : Rec Ac := ⟨30, 22, 3, 32, fun a => .agg #[.int .i64 a.kind, .string a.x.name, .int .i64 a.x.op], ⟨0, ⟨⟨#[]⟩, 0⟩⟩⟩
theorem acOk : acR.Ok where
  pos := by decide
  small := by decide
  bsmall := by decide
  len := fun _ => rfl
  one := by
    intro x v hv
    simp [Rec.cells, acR, Value.cells] at hv
    rcases hv with rfl | rfl | rfl <;> rfl
  slice := Try.underlying22
  info := ⟨_, rfl, rfl, rfl, rfl⟩
  fill := by
    intro y
    rw [show ((Array.range (1 * acR.n)).map (fun x => (acR.val acR.zero).cells[x % (acR.val acR.zero).cells.size]!)) = #[.int .i64 0, .string ⟨#[]⟩, .int .i64 0] from by apply Array.toList_inj.1; rw [Array.toList_map, Array.toList_range]; rfl]
    simp [Instr.fill, Value.cells, acR]

theorem cellsI : Try.prog.cellsOf 3 = 1 := by kernel_rfl
theorem cellsS : Try.prog.cellsOf 9 = 1 := by kernel_rfl
theorem cellsW : Try.prog.cellsOf 28 = 2 := by kernel_rfl
theorem cellsA : Try.prog.cellsOf 30 = 3 := by kernel_rfl

theorem wat_cells {H : Type} {enc : TypeId × Value → H} {W : World} {base fuel : Nat} {spare : Nat → Bool} {held : Bool} {cs : List Value} {x : DataW H × List MemPlace} (hl : cs.length = 2)
    (h : DataW.trod enc Try.prog W base spare held fuel 28 cs = some x) : ∃ y : Wat, cs = watR.cells y := by
  obtain ⟨ys, m, _, rfl, _, hl2, hf⟩ := DataW.trod_struct Try.underlying28 h
  match cs, hl with
  | [a, b], _ =>
  match ys, hl2 with
  | [y0, y1], _ =>
  have hy0 := hf 0 _ rfl
  have hy1 := hf 1 _ rfl
  simp [cellsI, cellsS] at hy0 hy1
  obtain ⟨E, eE, -, -⟩ := DataW.trod_string Try.underlying9 hy0
  obtain ⟨A, eA, -, -⟩ := DataW.trod_int Try.underlying3 hy1
  simp at eA eE
  exact ⟨⟨E, A⟩, by rw [eA, eE]; rfl⟩
theorem ac_cells {H : Type} {enc : TypeId × Value → H} {W : World} {base fuel : Nat} {spare : Nat → Bool} {held : Bool} {cs : List Value} {x : DataW H × List MemPlace} (hl : cs.length = 3)
    (h : DataW.trod enc Try.prog W base spare held fuel 30 cs = some x) : ∃ y : Ac, cs = acR.cells y := by
  obtain ⟨ys, m, _, rfl, _, hl2, hf⟩ := DataW.trod_struct Try.underlying30 h
  match cs, hl with
  | [a, b, c], _ =>
  match ys, hl2 with
  | [y0, y1], _ =>
  have hy0 := hf 0 _ rfl
  have hy1 := hf 1 _ rfl
  simp [cellsI, cellsW] at hy0 hy1
  obtain ⟨A, eA, -, -⟩ := DataW.trod_int Try.underlying3 hy0
  obtain ⟨X, eX⟩ := wat_cells rfl hy1
  simp at eA
  exact ⟨⟨A, X⟩, by rw [eA, eX]; rfl⟩
theorem openActs {H : Type} {enc : TypeId × Value → H} {W : World} {b0 base : Nat} {r : Reach} {spare : Nat → Bool} {held : Bool} {v : Value} {d : DataW H} {p : List MemPlace}
    (hv : Value.okWide Try.prog W r b0 22 v) (h : DataW.Trod enc Try.prog W base spare held 22 v d p) : ∃ L : List Ac, Reads acR W v L :=
  openRecs acOk cellsA (fun hl h => ac_cells hl h) hv h
theorem openWats {H : Type} {enc : TypeId × Value → H} {W : World} {b0 base : Nat} {r : Reach} {spare : Nat → Bool} {held : Bool} {v : Value} {d : DataW H} {p : List MemPlace}
    (hv : Value.okWide Try.prog W r b0 26 v) (h : DataW.Trod enc Try.prog W base spare held 26 v d p) : ∃ L : List Wat, Reads watR W v L :=
  openRecs watOk cellsW (fun hl h => wat_cells hl h) hv h

theorem ac_parts {w : World} {b o : Nat} {a : Ac} (h : w.rangeAt b o (acR.cells a)) : w.cell? ⟨b, o, none⟩ = some (.int .i64 a.kind) ∧ w.rangeAt b (o + 1) (watR.cells a.x) := by
  refine ⟨by simpa using h 0 _ rfl, fun j v hv => ?_⟩
  have h1 : (acR.cells a)[1 + j]? = some v := by
    match j, hv with
    | 0, hv => exact hv
    | 1, hv => exact hv
    | j + 2, hv => simp [Rec.cells, watR, Value.cells] at hv
  have := h (1 + j) v h1
  rwa [← Nat.add_assoc] at this

theorem watchActs_far (w : World) (room : Int) (v : Value) (A : List Ac) (hv : Reads acR w v A) (h : 150 < A.length ∨ room < 0) :
    Calls Try.prog 3 #[.int .i64 room, v] w fun e w' => e = .returned (.bool true) ∧ Below w.heap.size w w' := by
  obtain ⟨av, capv, rfl⟩ := hv.form
  by_cases hr : room < 0
  · by_cases h1 : 150 < A.length
    · go_enter Try.func3, Try.ntmps3
      go_wp2_with (first
        | (go_at_call 5; refine (new_none _ _ hr).mono ?_; rintro e w' ⟨rfl, rfl⟩)
        | (go_at_call 6; refine (live34_any _).mono ?_; rintro e w1 ⟨rfl, hb1⟩))
      all_goals
        go_ret
        exact ⟨rfl, hb1⟩
    · go_enter Try.func3, Try.ntmps3
      go_wp2_with (first
        | (go_at_call 5; refine (new_none _ _ hr).mono ?_; rintro e w' ⟨rfl, rfl⟩)
        | (go_at_call 6; refine (live34_any _).mono ?_; rintro e w1 ⟨rfl, hb1⟩))
      all_goals
        go_ret
        exact ⟨rfl, hb1⟩
  · have h1 : 150 < A.length := by rcases h with h | h; exact h; exact absurd h hr
    have hr2 : 0 ≤ room := Int.not_lt.1 hr
    go_enter Try.func3, Try.ntmps3
    go_wp2_with (first
      | (go_at_call 5; refine (new_any _ _ hr2).mono ?_; rintro e W1 ⟨p, rfl, hb1, hD1⟩)
      | (go_at_call 6; refine (live34_any _).mono ?_; rintro e w2 ⟨rfl, hb2⟩))
    all_goals
      go_ret
      exact ⟨rfl, bthen' hb1 hb2⟩

theorem Owns.formS {α : Type} {R : Rec α} {B : Nat} {w : World} {v : Value} {L : List α} {x : α} (h : Owns R B w v (L ++ [x])) : ∃ a cap, v = .slice a (L.length + 1) cap := by
  obtain ⟨a, cap, e⟩ := h.form
  exact ⟨a, cap, by rw [e]; simp⟩

/-- What stands at a round's head. -/
def Stands (w wr : World) (p : Nat) (room : Int) (u : Value) (L : List Wat) : Prop :=
  Below w.heap.size w wr ∧ ∃ v, DeskAt w.heap.size wr p room v L ∧ ReadsOut watR (deskF p v) wr u L

set_option maxRecDepth 100000 in
set_option maxHeartbeats 1600000 in
theorem watchActs_yes (w : World) (room : Int) (v : Value) (A : List Ac) (hv : Reads acR w v A) (h1 : A.length ≤ 150) (hr : 0 ≤ room) :
    Calls Try.prog 3 #[.int .i64 room, v] w fun e w' => e = .returned (.bool true) ∧ Below w.heap.size w w' := by
  obtain ⟨av, capv, rfl⟩ := hv.form
  have HV := Lib.hid hv
  clear hv
  go_enter Try.func3, Try.ntmps3
  go_wp2_with (go_at_call 5; refine (new_any _ _ hr).mono ?_; rintro e W1 ⟨p, rfl, hb1, hD1⟩)
  go_loopw [6, 7] (fun u i wr => ∃ (k : Nat) (L : List Wat), k ≤ A.length ∧ L.length ≤ k ∧ i = .int .i64 k ∧ Stands w wr p room u L) (fun u i _ => A.length - (intOf i).toNat)
  case atStart =>
    have hb2 : Below W1.heap.size W1 (W1.alloc (.cells #[] 28)) := (Below.refl _ _).alloc (Nat.le_refl _) _
    exact ⟨0, [], by omega, by simp, rfl, bthen' hb1 hb2, _, hD1.below hb2, .inl ⟨rfl, _, _, rfl⟩⟩
  case round =>
    clear hb1 hD1
    obtain ⟨k, L, hk, hLk, rfl, hW, u, hD, hO⟩ := hrel
    have HD := Lib.hid hD
    have HO := Lib.hid hO
    have hwr := hW.size
    have hlow := Lib.hid hD.lt
    clear hD
    obtain ⟨a6, cap6, rfl⟩ := hO.lts.form
    clear hO
    by_cases hlt : k < A.length
    · obtain ⟨a, ha⟩ : ∃ a, A[k]? = some a := ⟨_, List.getElem?_eq_getElem hlt⟩
      obtain ⟨b, off, rfl, hr2⟩ := (HV.out.below hW).at ha
      clear ha
      obtain ⟨ck, hrx⟩ := ac_parts hr2
      replace ck : wr.cell? ⟨b, off + k * 3, none⟩ = some (.int .i64 a.kind) := ck
      have hblt : b < wr.heap.size := World.block_lt_of_cell? wr _ ck
      clear hr2
      by_cases hlong : 300 < a.x.name.size
      · go_wp2_with (first
          | (refine wpList_load_mid rfl 28 _ rfl b (off + k * 3 + 1) rfl (watR.cells a.x) _ hrx Try.underlying28 rfl (watOk.row a.x) ?_)
          | (refine wpList_store_mid rfl 28 _ _ rfl wr.heap.size 0 (watR.cells a.x).toArray rfl rfl (freshR_there watOk wr a.x) (watOk.row' a.x) (watOk.one' a.x) ?_; show wpList _ _ _ _ _ (freshR watR wr a.x); have hx3 := freshR_range watOk wr a.x; have hb3 := freshR_below (R := watR) wr a.x; generalize freshR watR wr a.x = W3 at hx3 hb3 ⊢; obtain ⟨n0, n1⟩ := name_cell hx3)
          | (go_at_call 6; refine (live34_any _).mono ?_; rintro e W9 ⟨rfl, hb9⟩))
        go_ret
        exact ⟨rfl, bthen' (bthen' hW hb3) hb9⟩
      · have hsx : a.x.name.size ≤ 9223372036854775807 := by omega
        by_cases hkd : a.kind = 0
        · have hkb : (a.kind == 0) = true := by simp [hkd]
          clear hkd
          by_cases h0 : mayv room L (nameB a.x.name.data.toList) a.x = 0
          · have H0 := Lib.hid h0
            clear h0
            go_wp2_with (first
              | (refine wpList_load_mid rfl 28 _ rfl b (off + k * 3 + 1) rfl (watR.cells a.x) _ hrx Try.underlying28 rfl (watOk.row a.x) ?_)
              | (refine wpList_store_mid rfl 28 _ _ rfl wr.heap.size 0 (watR.cells a.x).toArray rfl rfl (freshR_there watOk wr a.x) (watOk.row' a.x) (watOk.one' a.x) ?_; show wpList _ _ _ _ _ (freshR watR wr a.x); have hx3 := freshR_range watOk wr a.x; have hb3 := freshR_below (R := watR) wr a.x; generalize freshR watR wr a.x = W3 at hx3 hb3 ⊢; obtain ⟨n0, n1⟩ := name_cell hx3; have ck3 := below_cell hb3 ck; have hs3 := hb3.size)
              | (refine wpList_load_mid rfl 28 _ rfl wr.heap.size 0 rfl (watR.cells a.x) _ hx3 Try.underlying28 rfl (watOk.row a.x) ?_)
              | (go_at_call 7; refine (refAdd_yes W3 room _ L (HO.out.lts.below hb3) a.x hsx (by omega) H0.out).mono ?_; rintro e W4 ⟨u4, rfl, hb4, hO4⟩; obtain ⟨a4, cap4, rfl⟩ := hO4.formS; obtain ⟨m0, m1⟩ := name_cell (below_range hb4 hx3); have hs4 := hb4.size)
              | (go_at_call 9; refine (may_any W4 w.heap.size p room u L ((HD.out.below hb3).below hb4) a.x hsx (by omega)).mono ?_; rintro e W5 ⟨rfl, hb5⟩; rw [H0.out]; obtain ⟨l0, l1⟩ := name_cell (below_range hb5 (below_range hb4 hx3)); have hs5 := hb5.size)
              | (go_at_call 10; refine (add_yes W5 w.heap.size p room u L (((HD.out.below hb3).below hb4).below hb5) a.x hsx (by omega) H0.out (by omega)).mono ?_; rintro e W6 ⟨rfl, u6, hU6, hD6, hF6⟩; have hs6 := hU6.size; have HR6 := Lib.hid ((hO4.below hb5).upd hU6 (fun j hj hin => by have := (hlow.out j hin).2; have := (hO4.lt j hj).1; omega)))
              | (go_at_call 8; refine (num_any _ _).mono ?_; rintro e w' ⟨rfl, rfl⟩)
              | (go_at_call 15; refine (all_any W6 w.heap.size p room u6 _ hD6 (by simp; omega)).mono ?_; rintro e W7 ⟨v7, rfl, hb7, hO7⟩)
              | (go_at_call 14; refine (sameWat_any _ _ _ (L ++ [a.x]) (L ++ [a.x]) (hO7.lts watOk) ((HR6.out.below hb7).lts watOk) (by simp; omega)).mono ?_; rintro e W8 ⟨rfl, hb8⟩))
            have hW5 := bthen' (bthen' (bthen' hW hb3) hb4) hb5
            have hW6 := hU6.toBelow hW5 hW5.size (fun i hi => (hlow.out i hi).1)
            go_roundw
            case rel =>
              refine ⟨k + 1, L ++ [a.x], by omega, by simp; omega, by go_num, bthen' (bthen' hW6 hb7) hb8, u6, (hD6.below hb7).below hb8, ?_⟩
              have hL := (HR6.out.below hb7).below hb8
              refine hL.outF watOk _ (fun g hg hin => ?_)
              have h9 := hO4.lt g (by simpa using hg)
              rcases hF6 g hin with h | h
              · have := (hlow.out g h).2; omega
              · omega
            case measure => simp [intOf]; omega
          · obtain ⟨c, hc⟩ : ∃ c, mayv room L (nameB a.x.name.data.toList) a.x = c := ⟨_, rfl⟩
            have kA := fun w (hb : Reads watR w (.slice a6 L.length cap6) L) => refAdd_no w room _ L hb a.x hsx (by omega) h0
            rw [hc] at h0 kA
            have KA := Lib.hid kA
            have HC := Lib.hid hc
            have H0 := Lib.hid h0
            clear h0 hc kA
            go_wp2_with (first
              | (refine wpList_load_mid rfl 28 _ rfl b (off + k * 3 + 1) rfl (watR.cells a.x) _ hrx Try.underlying28 rfl (watOk.row a.x) ?_)
              | (refine wpList_store_mid rfl 28 _ _ rfl wr.heap.size 0 (watR.cells a.x).toArray rfl rfl (freshR_there watOk wr a.x) (watOk.row' a.x) (watOk.one' a.x) ?_; show wpList _ _ _ _ _ (freshR watR wr a.x); have hx3 := freshR_range watOk wr a.x; have hb3 := freshR_below (R := watR) wr a.x; generalize freshR watR wr a.x = W3 at hx3 hb3 ⊢; obtain ⟨n0, n1⟩ := name_cell hx3; have ck3 := below_cell hb3 ck; have hs3 := hb3.size)
              | (refine wpList_load_mid rfl 28 _ rfl wr.heap.size 0 rfl (watR.cells a.x) _ hx3 Try.underlying28 rfl (watOk.row a.x) ?_)
              | (go_at_call 7; refine (KA.out W3 (HO.out.lts.below hb3)).mono ?_; rintro e W4 ⟨rfl, hb4⟩; obtain ⟨m0, m1⟩ := name_cell (below_range hb4 hx3); have hs4 := hb4.size)
              | (go_at_call 9; refine (may_any W4 w.heap.size p room u L ((HD.out.below hb3).below hb4) a.x hsx (by omega)).mono ?_; rintro e W5 ⟨rfl, hb5⟩; rw [HC.out]; obtain ⟨l0, l1⟩ := name_cell (below_range hb5 (below_range hb4 hx3)); have hs5 := hb5.size)
              | (go_at_call 10; refine (add_no W5 w.heap.size p room u L (((HD.out.below hb3).below hb4).below hb5) a.x hsx (by omega) c HC.out H0.out).mono ?_; rintro e W6 ⟨rfl, hb6⟩)
              | (go_at_call 8; refine (num_any _ _).mono ?_; rintro e w' ⟨rfl, rfl⟩)
              | (go_at_call 15; refine (all_any W6 w.heap.size p room u L ((((HD.out.below hb3).below hb4).below hb5).below hb6) (by omega)).mono ?_; rintro e W7 ⟨v7, rfl, hb7, hO7⟩)
              | (go_at_call 14; refine (sameWat_any _ _ _ L L (hO7.lts watOk) (((((HO.out.lts.below hb3).below hb4).below hb5).below hb6).below hb7) (by omega)).mono ?_; rintro e W8 ⟨rfl, hb8⟩))
            have hb38 := bthen' (bthen' (bthen' (bthen' (bthen' hb3 hb4) hb5) hb6) hb7) hb8
            go_roundw
            case rel => exact ⟨k + 1, L, by omega, by omega, by go_num, bthen' hW hb38, u, HD.out.below hb38, HO.out.upd (Upd.ofBelow _ hb38)⟩
            case measure => simp [intOf]; omega
        · have hkb : (a.kind == 0) = false := by simp [hkd]
          clear hkd
          have hln : (nov a.x.op L).length ≤ L.length := List.length_filter_le _ _
          have hly : ((yesv a.x.op L).map Wat.name).length ≤ L.length := by rw [List.length_map]; exact List.length_filter_le _ _
          go_wp2_with (first
            | (refine wpList_load_mid rfl 28 _ rfl b (off + k * 3 + 1) rfl (watR.cells a.x) _ hrx Try.underlying28 rfl (watOk.row a.x) ?_)
            | (refine wpList_store_mid rfl 28 _ _ rfl wr.heap.size 0 (watR.cells a.x).toArray rfl rfl (freshR_there watOk wr a.x) (watOk.row' a.x) (watOk.one' a.x) ?_; show wpList _ _ _ _ _ (freshR watR wr a.x); have hx3 := freshR_range watOk wr a.x; have hb3 := freshR_below (R := watR) wr a.x; generalize freshR watR wr a.x = W3 at hx3 hb3 ⊢; obtain ⟨n0, n1⟩ := name_cell hx3; have ck3 := below_cell hb3 ck; have hs3 := hb3.size)
            | (go_at_call 11; refine (refTake_any W3 a.x.op _ L (HO.out.lts.below hb3) (by omega)).mono ?_; rintro e W4 ⟨y4, n4, rfl, hb4, hY4, hN4⟩; obtain ⟨a4, cap4, rfl⟩ := hN4.form; obtain ⟨m0, m1⟩ := name_cell (below_range hb4 hx3); have hs4 := hb4.size)
            | (go_at_call 13; refine (take_any W4 w.heap.size p room u L ((HD.out.below hb3).below hb4) a.x.op (by omega) (by omega)).mono ?_; rintro e W5 ⟨out, rfl, ⟨u5, hU5, hD5, hF5⟩, hO5, hN5⟩; have hs5 := hU5.size; have HY5 := Lib.hid (hY4.upd hU5 (fun j hj hin => by have := (hlow.out j hin).2; have := (hY4.lt j hj).1; omega)); have HN5 := Lib.hid (hN4.upd hU5 (fun j hj hin => by have := (hlow.out j hin).2; have := (hN4.lt j hj).1; omega)))
            | (go_at_call 12; refine (texts_any _ _ _ ((yesv a.x.op L).map Wat.name) ((yesv a.x.op L).map Wat.name) (hO5.lts strOk) (HY5.out.lts strOk) (by omega)).mono ?_; rintro e W6 ⟨rfl, hb6⟩)
            | (go_at_call 15; refine (all_any W6 w.heap.size p room u5 (nov a.x.op L) (hD5.below hb6) (by omega)).mono ?_; rintro e W7 ⟨v7, rfl, hb7, hO7⟩)
            | (go_at_call 14; refine (sameWat_any _ _ _ (nov a.x.op L) (nov a.x.op L) (hO7.lts watOk) (((HN5.out.below hb6).below hb7).lts watOk) (by omega)).mono ?_; rintro e W8 ⟨rfl, hb8⟩))
          have hW4 := bthen' (bthen' hW hb3) hb4
          have hW5 := hU5.toBelow hW4 hW4.size (fun i hi => (hlow.out i hi).1)
          have hb68 := bthen' (bthen' hb6 hb7) hb8
          go_roundw
          case rel =>
            refine ⟨k + 1, nov a.x.op L, by omega, by omega, by go_num, bthen' hW5 hb68, u5, hD5.below hb68, ?_⟩
            refine (HN5.out.below hb68).outF watOk _ (fun g hg hin => ?_)
            have h9 := hN4.lt g (by simpa using hg)
            rcases hF5 g hin with h | h
            · have := (hlow.out g h).2; omega
            · omega
          case measure => simp [intOf]; omega
    · obtain rfl : k = A.length := by omega
      go_wp2_with (go_at_call 6; refine (live34_any _).mono ?_; rintro e W9 ⟨rfl, hb9⟩)
      go_ret
      exact ⟨rfl, bthen' hW hb9⟩

theorem watchActs_of (room : Int) (v : Value) (A : List Ac) (w : World) (hv : Reads acR w v A) :
    Calls Try.prog 3 #[.int .i64 room, v] w fun e w' => e = .returned (.bool true) ∧ Below w.heap.size w w' := by
  by_cases h1 : 150 < A.length ∨ room < 0
  · exact watchActs_far w room v A hv h1
  · exact watchActs_yes w room v A hv (by omega) (by omega)

end Go.Proofs.Ytbghodknnejihaa
