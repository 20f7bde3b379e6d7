/- The contracts of watch's functions, going on: Take, All, Load; the reference's Take. -/
import Derived.Test.YtbghodknnejihaaWatWalks2
set_option linter.unusedVariables false
namespace Go.Proofs.Ytbghodknnejihaa
open Go.RowKit

/-- Who waited is handed back, by name; the desk has turned. -/
def Taken (B : Nat) (w : World) (p : Nat) (room : Int) (v : Value) (L : List Wat) (op : Int) (e : Ending) (w' : World) : Prop :=
  ∃ out, e = .returned out ∧ Turned B w p room v (nov op L) w' ∧ Owns strR w.heap.size w' out ((yesv op L).map Wat.name) ∧ ∀ k, out.ownBlock = some k → k ≠ p

theorem take_none (w : World) (op : Int) : Calls Try.prog 13 #[.pointer none, .int .i64 op] w fun e w' => e = .returned (.slice none 0 0) ∧ Below w.heap.size w w' := by
  go_enter Try.func13, Try.ntmps13
  go_wp2_with fail
  go_ret
  exact ⟨rfl, (Below.refl _ _).alloc (Nat.le_refl _) _⟩

theorem name_cell {w : World} {b : Nat} {x : Wat} (h : w.rangeAt b 0 (watR.cells x)) : w.cell? ⟨b, 0, none⟩ = some (.string x.name) ∧ w.cell? ⟨b, 1, none⟩ = some (.int .i64 x.op) :=
  ⟨by simpa using h 0 _ rfl, by simpa using h 1 _ rfl⟩

set_option maxRecDepth 100000 in
set_option maxHeartbeats 4000000 in
theorem take_any (w : World) (B p : Nat) (room : Int) (v : Value) (L : List Wat) (h : DeskAt B w p room v L) (op : Int) (hbig : L.length < 1000000) (hB : B ≤ w.heap.size) :
    Calls Try.prog 13 #[.pointer (some ⟨p, 0, none⟩), .int .i64 op] w (Taken B w p room v L op) := by
  have hb0 : Below w.heap.size w (w.alloc (.cells #[.int .i64 op] 3)) := (Below.refl _ _).alloc (Nat.le_refl _) _
  have hD := h.below hb0
  have c1 := hD.c1
  have hc : (w.alloc (.cells #[.int .i64 op] 3)).cell? ⟨w.heap.size, 0, none⟩ = some (.int .i64 op) := by simp
  have hplt : p < w.heap.size := World.block_lt_of_cell? w _ h.c0
  go_enter Try.func13, Try.ntmps13
  go_wp2_with fail
  have hsz0 : (w.alloc (.cells #[.int .i64 op] 3)).heap.size = w.heap.size + 1 := by simp
  generalize w.alloc (.cells #[.int .i64 op] 3) = W0 at hb0 hD c1 hc hsz0 ⊢
  go_at_call 22; refine (split_any W0 w.heap.size op v L (hD.own.lts watOk) hc hbig).mono ?_; rintro e W1 ⟨y, n, rfl, hb1, hO1, hO2⟩
  have hD1 := hD.below hb1
  have hW1 := bthen' hb0 hb1
  have hs1 := hb1.size
  obtain ⟨ay, capy, rfl⟩ := hO1.form
  obtain ⟨an, capn, rfl⟩ := hO2.form
  have HY := Lib.hid (hO1.lts watOk)
  have HN := Lib.hid hO2
  have hly : (yesv op L).length ≤ L.length := List.length_filter_le _ _
  clear hO1 hO2 hc
  go_wp2_with fail
  go_loopw [5, 23] (fun out i wr => ∃ k : Nat, k ≤ (yesv op L).length ∧ i = .int .i64 k ∧ Below W1.heap.size W1 wr ∧ Owns strR W1.heap.size wr out (((yesv op L).take k).map Wat.name)) (fun out i _ => (yesv op L).length - (intOf i).toNat)
  case atStart => exact ⟨0, by omega, rfl, Below.refl _ _, Owns.nil _ _ _⟩
  case round =>
    obtain ⟨k, hk, rfl, hW, hO⟩ := hrel
    have HO := Lib.hid hO
    have hwr := hW.size
    clear hO
    by_cases hlt : k < (yesv op L).length
    · obtain ⟨x, hx⟩ : ∃ x, (yesv op L)[k]? = some x := ⟨_, List.getElem?_eq_getElem hlt⟩
      obtain ⟨b, off, rfl, hr⟩ := (HY.out.below hW).at hx
      have T := Lib.hid (show ((yesv op L).take k).map Wat.name ++ [x.name] = ((yesv op L).take (k + 1)).map Wat.name from by rw [← take_snoc hx]; simp)
      have hlk : (((yesv op L).take k).map Wat.name).length = k := by simp; omega
      clear hx
      go_wp2_with (first
        | (refine wpList_load_mid rfl 28 _ rfl b (off + k * watR.n) rfl (watR.cells x) _ hr Try.underlying28 rfl (watOk.row x) ?_)
        | (refine wpList_store_mid rfl 28 _ _ rfl wr.heap.size 0 (watR.cells x).toArray rfl rfl (freshR_there watOk wr x) (watOk.row' x) (watOk.one' x) ?_; show wpList _ _ _ _ _ (freshR watR wr x); have hx3 := freshR_range watOk wr x; have hb3 := freshR_below (R := watR) wr x; generalize freshR watR wr x = W3 at hx3 hb3 ⊢; obtain ⟨n0, n1⟩ := name_cell hx3)
        | (refine wl_build_rec strOk rfl _ rfl x.name rfl ?_; have hx5 := built_range (R := strR) (w := W3) x.name; have hb5 : Below W3.heap.size W3 (W3.alloc (.cells (strR.val x.name).cells strR.ty)) := (Below.refl _ _).alloc (Nat.le_refl _) _; generalize W3.alloc (.cells (strR.val x.name).cells strR.ty) = W5 at hx5 hb5 ⊢; have hbT := bthen' hb3 hb5; have hOm := HO.out.below hbT; have hszT := hbT.size)
        | (refine wl_append_rec strOk rfl _ _ rfl W1.heap.size u5 (((yesv op L).take k).map Wat.name) rfl hOm W3.heap.size 0 1 x.name rfl hx5 (by omega) (by omega) ?_; intro g cap W6 hO6 hg6 hat6))
      rw [T.out, hlk] at hO6
      have hW6 := (bthen' hW hbT).grown hg6 (by omega) (fun k hk => (hOm.lt k hk).1)
      go_roundw
      case rel => exact ⟨k + 1, by omega, by go_num, hW6, hO6⟩
      case measure => simp [intOf]; omega
    · obtain rfl : k = (yesv op L).length := by omega
      have HT := Lib.hid (List.take_length (l := yesv op L))
      have hDr := hD1.below hW
      have r1 := hDr.c1
      have rf := hDr.f1
      go_wp2_with fail
      go_ret
      have hWr := bthen' hW1 hW
      have hpr := hDr.lt p (deskF_mem.2 (.inl rfl))
      have hNl := HN.out.lt
      refine ⟨u5, rfl, ⟨.slice an (nov op L).length capn, ((Upd.ofBelow _ hWr).setCell (p := ⟨p, 1, none⟩) (deskF_mem.2 (.inl rfl)) _), ⟨h.low, ?_, ?_, ?_, ?_, ?_⟩, ?_⟩, ?_, ?_⟩
      · rw [World.cell?_setCell_other _ _ _ _ (by simp)]; exact hDr.c0
      · rw [World.cell?_setCell_same _ _ _ r1]
      · rw [World.frozen?_setCell]; exact rf
      · exact ((HN.out.below hW).mono (by omega)).upd ((Upd.refl [p] wr).setCell (p := ⟨p, 1, none⟩) (by simp) _) (fun k hk => by have := hNl k hk; simp; omega)
      · intro e; have := hNl p e; omega
      · intro i hi
        rcases deskF_mem.1 hi with rfl | hi
        · exact .inl (deskF_mem.2 (.inl rfl))
        · right; have := hNl i hi; omega
      · have := HO.out
        rw [HT.out] at this
        have hlt2 := this.lt
        exact (this.mono (by omega)).upd ((Upd.refl [p] wr).setCell (p := ⟨p, 1, none⟩) (by simp) _) (fun k hk => by have := hlt2 k hk; simp; omega)
      · intro k hk
        have := HO.out.lt k hk
        omega

/-- A copy of who waits is handed back. -/
def Copied (w : World) (L : List Wat) (e : Ending) (w' : World) : Prop := ∃ v, e = .returned v ∧ Below w.heap.size w w' ∧ Owns watR w.heap.size w' v L

theorem clone_any (w : World) (B : Nat) (v : Value) (L : List Wat) (hv : Owns watR B w v L) (hbig : L.length < 1000000) :
    Calls Try.prog 24 #[v] w (Copied w L) := by
  rcases hv.nilOf with ⟨rfl, rfl⟩ | ⟨g, cap, rfl, hg, hgl⟩
  · have hn := fun (w : World) => Lib.run_eql_slice_nil (P := Try.prog) w 26 28 none 0 0 0 0 Try.underlying26
    go_enter Try.func24, Try.ntmps24
    go_wp2_with fail
    go_ret
    exact ⟨_, rfl, Below.refl _ _, Owns.nil _ _ _⟩
  · have HV := Lib.hid (hv.lts watOk)
    have hn := fun (w : World) => Lib.run_eql_slice_nil (P := Try.prog) w 26 28 (some ⟨g, 0, none⟩) L.length cap 0 0 Try.underlying26
    have hb1 : Below w.heap.size w (w.alloc (.cells #[] watR.ty)) := (Below.refl _ _).alloc (Nat.le_refl _) _
    have hO1 := Owns.made (R := watR) (B := w.heap.size) (w := w) (Nat.le_refl _)
    go_enter Try.func24, Try.ntmps24
    go_wp2_with (refine wl_append_all watOk rfl _ _ rfl rfl w.heap.size (.slice (some ⟨w.heap.size, 0, none⟩) 0 0) (.slice (some ⟨g, 0, none⟩) L.length cap) [] L rfl rfl hO1 (HV.out.below hb1) (by simp; omega) hb1.size ?_; intro u' W2 hO2 hg2 hat2)
    go_ret
    exact ⟨u', rfl, hb1.grown hg2 hb1.size (fun k hk => (hO1.lt k hk).1), by simpa using hO2⟩

theorem all_none (w : World) : Calls Try.prog 15 #[.pointer none] w fun e w' => e = .returned (.slice none 0 0) ∧ w = w' := by
  go_enter Try.func15, Try.ntmps15
  go_wp2_with fail
  go_ret
  exact ⟨rfl, rfl⟩
theorem all_any (w : World) (B p : Nat) (room : Int) (v : Value) (L : List Wat) (h : DeskAt B w p room v L) (hbig : L.length < 1000000) :
    Calls Try.prog 15 #[.pointer (some ⟨p, 0, none⟩)] w (Copied w L) := by
  have c1 := h.c1
  obtain ⟨av, capv, rfl⟩ := h.own.form
  go_enter Try.func15, Try.ntmps15
  go_wp2_with (go_at_call 24; refine (clone_any w B _ L h.own hbig).mono ?_; rintro e W1 ⟨u, rfl, hb1, hO1⟩)
  go_ret
  exact ⟨u, rfl, hb1, hO1⟩

/-! ### Load -/
def rightF (room : Int) : List Wat → List Wat → Bool
  | _, [] => true
  | acc, x :: r => decide (mayv room acc (nameB x.name.data.toList) x = 0) && rightF room (acc ++ [x]) r
def rightv (room : Int) (L : List Wat) : Bool := decide (0 ≤ room) && rightF room [] L
/-- What is left to be asked of those that are loaded. -/
def LoadRest (room : Int) (L : List Wat) (k : Nat) : Prop := rightF room [] L = rightF room (L.take k) (L.drop k)
theorem LoadRest.start (room : Int) (L : List Wat) : LoadRest room L 0 := rfl
theorem LoadRest.step {room : Int} {L : List Wat} {k : Nat} {x : Wat} (h : LoadRest room L k) (hx : L[k]? = some x) (h0 : mayv room (L.take k) (nameB x.name.data.toList) x = 0) : LoadRest room L (k + 1) := by
  unfold LoadRest at *
  have hk : k < L.length := (List.getElem?_eq_some_iff.1 hx).1
  have hd : L.drop k = x :: L.drop (k + 1) := by
    rw [List.drop_eq_getElem_cons hk]
    rw [List.getElem?_eq_getElem hk] at hx
    rw [Option.some.inj hx]
  rw [h, hd, rightF, h0, take_snoc hx]; simp
theorem LoadRest.bad {room : Int} {L : List Wat} {k : Nat} {x : Wat} (h : LoadRest room L k) (hx : L[k]? = some x) (h0 : mayv room (L.take k) (nameB x.name.data.toList) x ≠ 0) : rightF room [] L = false := by
  unfold LoadRest at *
  have hk : k < L.length := (List.getElem?_eq_some_iff.1 hx).1
  have hd : L.drop k = x :: L.drop (k + 1) := by
    rw [List.drop_eq_getElem_cons hk]
    rw [List.getElem?_eq_getElem hk] at hx
    rw [Option.some.inj hx]
  rw [h, hd, rightF]; simp [h0]
theorem LoadRest.done {room : Int} {L : List Wat} (h : LoadRest room L L.length) : rightF room [] L = true := by
  unfold LoadRest at h
  rw [h]; simp [rightF]

/-- A desk of these is handed back. -/
def Loaded (w : World) (room : Int) (L : List Wat) (e : Ending) (w' : World) : Prop :=
  ∃ p v, e = .returned (.tuple #[.pointer (some ⟨p, 0, none⟩), .bool true]) ∧ Below w.heap.size w w' ∧ DeskAt w.heap.size w' p room v L

theorem load_low (w : World) (room : Int) (v : Value) (L : List Wat) (hv : Reads watR w v L) (hr : room < 0) :
    Calls Try.prog 16 #[.int .i64 room, v] w fun e w' => e = .returned (.tuple #[.pointer none, .bool false]) ∧ Below w.heap.size w w' := by
  obtain ⟨av, capv, rfl⟩ := hv.form
  by_cases h0 : L = []
  · subst h0
    go_enter Try.func16, Try.ntmps16
    go_wp2_with (go_at_call 5; refine (new_none _ _ hr).mono ?_; rintro e w' ⟨rfl, rfl⟩)
    refine wp_loop_rounds 1 ?_
    rw [rounds_succ]
    go_wp2_with fail
    go_ret2
    exact ⟨rfl, Below.refl _ _⟩
  · obtain ⟨x, hx⟩ : ∃ x, L[0]? = some x := ⟨_, List.getElem?_eq_getElem (List.length_pos_iff.2 h0)⟩
    obtain ⟨b, off, rfl, hr⟩ := hv.at hx
    have hl : 0 < L.length := List.length_pos_iff.2 h0
    clear hx h0
    go_enter Try.func16, Try.ntmps16
    go_wp2_with (go_at_call 5; refine (new_none _ _ (by assumption)).mono ?_; rintro e w' ⟨rfl, rfl⟩)
    refine wp_loop_rounds 1 ?_
    rw [rounds_succ]
    rw [Nat.zero_mul, Nat.add_zero] at hr
    go_wp2_with (first
      | (refine wpList_load_mid rfl 28 _ rfl b off rfl (watR.cells x) _ hr Try.underlying28 rfl (watOk.row x) ?_)
      | (refine wpList_store_mid rfl 28 _ _ rfl w.heap.size 0 (watR.cells x).toArray rfl rfl (freshR_there watOk w x) (watOk.row' x) (watOk.one' x) ?_; show wpList _ _ _ _ _ (freshR watR w x); have hx3 := freshR_range watOk w x; have hb3 := freshR_below (R := watR) w x; generalize freshR watR w x = W3 at hx3 hb3 ⊢; obtain ⟨n0, n1⟩ := name_cell hx3)
      | (go_at_call 10; refine (add_none _ x).mono ?_; rintro e W4 ⟨rfl, hb4⟩))
    go_ret2
    exact ⟨rfl, bthen' hb3 hb4⟩

def LoadEnd (w : World) (room : Int) (L : List Wat) (e : Ending) (w' : World) : Prop :=
  (rightF room [] L = true ∧ Loaded w room L e w') ∨ (rightF room [] L = false ∧ e = .returned (.tuple #[.pointer none, .bool false]) ∧ Below w.heap.size w w')
/-- The desk at a round's head. -/
def Desks (w wr : World) (p : Nat) (room : Int) (L : List Wat) : Prop := Below w.heap.size w wr ∧ ∃ v, DeskAt w.heap.size wr p room v L

set_option maxRecDepth 100000 in
set_option maxHeartbeats 4000000 in
theorem load_any (w : World) (room : Int) (v : Value) (L : List Wat) (hv : Reads watR w v L) (hr : 0 ≤ room) (hs : ∀ x ∈ L, x.name.size ≤ 9223372036854775807) (hbig : L.length < 1000000) :
    Calls Try.prog 16 #[.int .i64 room, v] w (LoadEnd w room L) := by
  obtain ⟨av, capv, rfl⟩ := hv.form
  have HV := Lib.hid hv
  have HS := Lib.hid hs
  clear hv hs
  go_enter Try.func16, Try.ntmps16
  go_wp2_with (go_at_call 5; refine (new_any _ _ hr).mono ?_; rintro e W1 ⟨p, rfl, hb1, hD1⟩)
  go_loopw [13] (fun i wr => ∃ k : Nat, k ≤ L.length ∧ i = .int .i64 k ∧ Desks w wr p room (L.take k) ∧ LoadRest room L k) (fun i _ => L.length - (intOf i).toNat)
  case atStart => exact ⟨0, by omega, rfl, ⟨hb1, _, hD1⟩, LoadRest.start _ _⟩
  case round =>
    clear hb1 hD1
    obtain ⟨k, hk, rfl, ⟨hW, u, hD⟩, hR⟩ := hrel
    have HR := Lib.hid hR
    have HD := Lib.hid hD
    have hwr := hW.size
    clear hR hD
    by_cases hlt : k < L.length
    · obtain ⟨x, hx⟩ : ∃ x, L[k]? = some x := ⟨_, List.getElem?_eq_getElem hlt⟩
      obtain ⟨b, off, rfl, hr2⟩ := (HV.out.below hW).at hx
      have HX := Lib.hid hx
      have hlk : (L.take k).length = k := by simp; omega
      have hsx := HS.out x (List.mem_of_getElem? hx)
      clear hx
      by_cases h0 : mayv room (L.take k) (nameB x.name.data.toList) x = 0
      · have HR2 := Lib.hid (HR.out.step HX.out h0)
        have H0 := Lib.hid h0
        have T := Lib.hid (take_snoc HX.out)
        clear h0
        go_wp2_with (first
          | (refine wpList_load_mid rfl 28 _ rfl b (off + k * watR.n) rfl (watR.cells x) _ hr2 Try.underlying28 rfl (watOk.row x) ?_)
          | (refine wpList_store_mid rfl 28 _ _ rfl wr.heap.size 0 (watR.cells x).toArray rfl rfl (freshR_there watOk wr x) (watOk.row' x) (watOk.one' x) ?_; show wpList _ _ _ _ _ (freshR watR wr x); have hx3 := freshR_range watOk wr x; have hb3 := freshR_below (R := watR) wr x; generalize freshR watR wr x = W3 at hx3 hb3 ⊢; obtain ⟨n0, n1⟩ := name_cell hx3)
          | (go_at_call 10; refine (add_yes W3 w.heap.size p room u (L.take k) (HD.out.below hb3) x hsx (by omega) H0.out (by have := hb3.size; omega)).mono ?_; rintro e W4 ⟨rfl, hT4⟩))
        obtain ⟨u4, hU4, hD4, hF4⟩ := hT4
        rw [T.out] at hD4
        have hW3 := bthen' hW hb3
        have hlow := HD.out.lt
        go_roundw
        case rel => exact ⟨k + 1, by omega, by go_num, ⟨hU4.toBelow hW3 hW3.size (fun i hi => (hlow i hi).1), u4, hD4⟩, HR2.out⟩
        case measure => simp [intOf]; omega
      · have HR2 := Lib.hid (HR.out.bad HX.out h0)
        obtain ⟨c, hc⟩ : ∃ c, mayv room (L.take k) (nameB x.name.data.toList) x = c := ⟨_, rfl⟩
        rw [hc] at h0
        have HC := Lib.hid hc
        have H0 := Lib.hid h0
        have hcb : (c != 0) = true := by simpa using h0
        clear h0 hc
        go_wp2_with (first
          | (refine wpList_load_mid rfl 28 _ rfl b (off + k * watR.n) rfl (watR.cells x) _ hr2 Try.underlying28 rfl (watOk.row x) ?_)
          | (refine wpList_store_mid rfl 28 _ _ rfl wr.heap.size 0 (watR.cells x).toArray rfl rfl (freshR_there watOk wr x) (watOk.row' x) (watOk.one' x) ?_; show wpList _ _ _ _ _ (freshR watR wr x); have hx3 := freshR_range watOk wr x; have hb3 := freshR_below (R := watR) wr x; generalize freshR watR wr x = W3 at hx3 hb3 ⊢; obtain ⟨n0, n1⟩ := name_cell hx3)
          | (go_at_call 10; refine (add_no W3 w.heap.size p room u (L.take k) (HD.out.below hb3) x hsx (by omega) c HC.out H0.out).mono ?_; rintro e W4 ⟨rfl, hb4⟩))
        go_ret2
        exact .inr ⟨HR2.out, rfl, bthen' (bthen' hW hb3) hb4⟩
    · obtain rfl : k = L.length := by omega
      have HE := Lib.hid (HR.out.done)
      have HD2 := Lib.hid (show DeskAt w.heap.size wr p room u L from by have := HD.out; rwa [List.take_length] at this)
      clear HR HD
      go_wp2_with fail
      go_ret2
      exact .inl ⟨HE.out, p, u, rfl, hW, HD2.out⟩

/-! ### the reference's Take -/
/-- Names and those that are left are handed back. -/
def RefTaken (w : World) (op : Int) (L : List Wat) (e : Ending) (w' : World) : Prop :=
  ∃ y n, e = .returned (.tuple #[y, n]) ∧ Below w.heap.size w w' ∧ Owns strR w.heap.size w' y ((yesv op L).map Wat.name) ∧ Owns watR w.heap.size w' n (nov op L)

set_option maxRecDepth 100000 in
set_option maxHeartbeats 4000000 in
theorem refTake_any (w : World) (op : Int) (v : Value) (L : List Wat) (hv : Reads watR w v L) (hbig : L.length < 1000000) :
    Calls Try.prog 11 #[v, .int .i64 op] w (RefTaken w op L) := by
  obtain ⟨av, capv, rfl⟩ := hv.form
  have HV := Lib.hid hv
  clear hv
  have hO1 := Owns.made (R := strR) (B := w.heap.size) (w := w) (Nat.le_refl _)
  have hb1 : Below w.heap.size w (w.alloc (.cells #[] strR.ty)) := (Below.refl _ _).alloc (Nat.le_refl _) _
  have hO2 := Owns.made (R := watR) (B := w.heap.size) (w := w.alloc (.cells #[] strR.ty)) hb1.size
  have hb2 : Below (w.alloc (.cells #[] strR.ty)).heap.size (w.alloc (.cells #[] strR.ty)) ((w.alloc (.cells #[] strR.ty)).alloc (.cells #[] watR.ty)) := (Below.refl _ _).alloc (Nat.le_refl _) _
  go_enter Try.func11, Try.ntmps11
  go_wp2_with fail
  go_loopw [6, 7, 8] (fun y n i wr => ∃ k : Nat, k ≤ L.length ∧ i = .int .i64 k ∧ Below w.heap.size w wr ∧ Owns strR w.heap.size wr y ((yesv op (L.take k)).map Wat.name) ∧ Owns watR w.heap.size wr n (nov op (L.take k)) ∧ Dist y n) (fun y n i _ => L.length - (intOf i).toNat)
  case atStart => exact ⟨0, by omega, rfl, bthen' hb1 hb2, hO1.below hb2, (by have h := hO2; rw [show (w.alloc (.cells #[] strR.ty)).heap.size = w.heap.size + 1 by simp] at h; exact h), fun k h1 h2 => by simp [Value.ownBlock] at h1 h2; omega⟩
  case round =>
    clear hO1 hO2 hb1 hb2
    obtain ⟨k, hk, rfl, hW, hO1, hO2, hD⟩ := hrel
    have HO1 := Lib.hid hO1
    have HO2 := Lib.hid hO2
    have HD := Lib.hid hD
    have hwr := hW.size
    clear hO1 hO2 hD
    by_cases hlt : k < L.length
    · obtain ⟨x, hx⟩ : ∃ x, L[k]? = some x := ⟨_, List.getElem?_eq_getElem hlt⟩
      obtain ⟨b, off, rfl, hr⟩ := (HV.out.below hW).at hx
      have HX := Lib.hid hx
      have hl1 : ((yesv op (L.take k)).map Wat.name).length ≤ k := by
        have := List.length_filter_le (opB op) (L.take k)
        unfold yesv
        simp at this ⊢; omega
      have hl2 : (nov op (L.take k)).length ≤ k := by
        have := List.length_filter_le (fun x => !opB op x) (L.take k)
        unfold nov
        simp at this ⊢; omega
      have m0 : wr.cell? ⟨b, off + k * 2, none⟩ = some (.string x.name) := by show wr.cell? ⟨b, off + k * watR.n, none⟩ = _; simpa using hr 0 _ rfl
      have m1 : wr.cell? ⟨b, off + k * 2 + 1, none⟩ = some (.int .i64 x.op) := by show wr.cell? ⟨b, off + k * watR.n + 1, none⟩ = _; simpa using hr 1 _ rfl
      clear hx
      cases hq : opB op x with
      | true =>
        have hq2 : (x.op == op) = true := hq
        have T1 := Lib.hid (show (yesv op (L.take k)).map Wat.name ++ [x.name] = (yesv op (L.take (k + 1))).map Wat.name from by rw [← take_snoc HX.out]; simp [yesv, hq])
        have T2 := Lib.hid (show nov op (L.take k) = nov op (L.take (k + 1)) from by rw [← take_snoc HX.out]; simp [nov, hq])
        clear hq
        go_wp2_with (first
          | (refine wl_build_rec strOk rfl _ rfl x.name rfl ?_; have hx5 := built_range (R := strR) (w := wr) x.name; have hb5 : Below wr.heap.size wr (wr.alloc (.cells (strR.val x.name).cells strR.ty)) := (Below.refl _ _).alloc (Nat.le_refl _) _; generalize wr.alloc (.cells (strR.val x.name).cells strR.ty) = W5 at hx5 hb5 ⊢; have hOm := HO1.out.below hb5; have hOo := HO2.out.below hb5; have hszT := hb5.size)
          | (refine wl_append_rec strOk rfl _ _ rfl w.heap.size u6 ((yesv op (L.take k)).map Wat.name) rfl hOm wr.heap.size 0 1 x.name rfl hx5 (by omega) (by omega) ?_; intro g cap W6 hO6 hg6 hat6))
        rw [T1.out, List.length_map] at hO6
        have hOo6 := hOo.grown (u := u6) hg6 (fun k h1 h2 => HD.out k h2 h1)
        rw [T2.out] at hOo6
        have hW6 := (bthen' hW hb5).grown hg6 (by omega) (fun k hk => (hOm.lt k hk).1)
        have hlo := hOo.lt
        have hD6 : Dist (.slice (some ⟨g, 0, none⟩) ((yesv op (L.take k)).length + 1) cap) u7 := by
          intro j h1 h2
          simp [Value.ownBlock] at h1
          subst h1
          rcases hat6 with h3 | h3
          · exact HD.out _ h3 h2
          · have := (hlo _ h2).2; omega
        go_roundw
        case rel => exact ⟨k + 1, by omega, by go_num, hW6, hO6, hOo6, hD6⟩
        case measure => simp [intOf]; omega
      | false =>
        have hq2 : (x.op == op) = false := hq
        have T1 := Lib.hid (show nov op (L.take k) ++ [x] = nov op (L.take (k + 1)) from by rw [← take_snoc HX.out]; simp [nov, hq])
        have T2 := Lib.hid (show (yesv op (L.take k)).map Wat.name = (yesv op (L.take (k + 1))).map Wat.name from by rw [← take_snoc HX.out]; simp [yesv, hq])
        clear hq m0
        go_wp2_with (first
          | (refine wpList_load_mid rfl 28 _ rfl b (off + k * watR.n) rfl (watR.cells x) _ hr Try.underlying28 rfl (watOk.row x) ?_)
          | (refine wl_build_rec watOk rfl _ rfl x rfl ?_; have hx5 := built_range (R := watR) (w := wr) x; have hb5 : Below wr.heap.size wr (wr.alloc (.cells (watR.val x).cells watR.ty)) := (Below.refl _ _).alloc (Nat.le_refl _) _; generalize wr.alloc (.cells (watR.val x).cells watR.ty) = W5 at hx5 hb5 ⊢; have hOm := HO2.out.below hb5; have hOo := HO1.out.below hb5; have hszT := hb5.size)
          | (refine wl_append_rec watOk rfl _ _ rfl w.heap.size u7 (nov op (L.take k)) rfl hOm wr.heap.size 0 1 x rfl hx5 (by omega) (by omega) ?_; intro g cap W6 hO6 hg6 hat6))
        rw [T1.out] at hO6
        have hOo6 := hOo.grown (u := u7) hg6 (fun k h1 h2 => HD.out k h1 h2)
        rw [T2.out] at hOo6
        have hW6 := (bthen' hW hb5).grown hg6 (by omega) (fun k hk => (hOm.lt k hk).1)
        have hlo := hOo.lt
        have hD6 : Dist u6 (.slice (some ⟨g, 0, none⟩) ((nov op (L.take k)).length + 1) cap) := by
          intro j h1 h2
          simp [Value.ownBlock] at h2
          subst h2
          rcases hat6 with h3 | h3
          · exact HD.out _ h1 h3
          · have := (hlo _ h1).2; omega
        go_roundw
        case rel => exact ⟨k + 1, by omega, by go_num, hW6, hOo6, hO6, hD6⟩
        case measure => simp [intOf]; omega
    · obtain rfl : k = L.length := by omega
      have HT := Lib.hid (List.take_length (l := L))
      go_wp2_with fail
      go_ret2
      exact ⟨u6, u7, rfl, hW, by rw [HT.out] at HO1; exact HO1.out, by rw [HT.out] at HO2; exact HO2.out⟩

end Go.Proofs.Ytbghodknnejihaa
