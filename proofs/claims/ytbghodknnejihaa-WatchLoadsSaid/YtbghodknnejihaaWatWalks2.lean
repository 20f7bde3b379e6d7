/- The contracts of watch's functions, going on: Add, split, Take, All, Load. -/
import Derived.Test.YtbghodknnejihaaWatWalks
import Derived.Deep.LoopGhost
import Derived.Deep.CutRange
import Derived.Deep.DeepCutAuto
import Derived.Deep.CutBlock
set_option linter.unusedVariables false
namespace Go.Proofs.Ytbghodknnejihaa
open Go.RowKit

theorem DeskAt.grown {B : Nat} {w w' : World} {p : Nat} {room : Int} {v : Value} {L : List Wat} (h : DeskAt B w p room v L) (hg : w.grownBy w' v.ownBlock) :
    w'.cell? ⟨p, 0, none⟩ = some (.int .i64 room) ∧ w'.cell? ⟨p, 1, none⟩ = some v ∧ w'.frozen? ⟨p, 1, none⟩ = false ∧ p < w'.heap.size := by
  have hp := World.block_lt_of_cell? w _ h.c0
  have hb := hg.block p hp (fun e => h.ne e.symm)
  refine ⟨(World.cell?_of_block (w := w) hb).trans h.c0, (World.cell?_of_block (w := w) hb).trans h.c1, (World.frozen?_of_block (w := w) hb).trans h.f1, ?_⟩
  have := hg.size
  simp only at hp
  omega
theorem Upd.grown {F : List Nat} {w w' : World} {o : Option Nat} (hg : w.grownBy w' o) (hF : ∀ i, o = some i → i ∈ F) : Upd F w w' :=
  ⟨hg.os, hg.tape, hg.output, hg.size, fun k hk hn => hg.block k hk (fun e => hn (hF k e.symm))⟩

/-- The desk has turned: these wait; of the blocks that were there its own alone are others; its own are those, or new. -/
def Turned (B : Nat) (w : World) (p : Nat) (room : Int) (v : Value) (L : List Wat) (w' : World) : Prop :=
  ∃ v', Upd (deskF p v) w w' ∧ DeskAt B w' p room v' L ∧ ∀ i ∈ deskF p v', i ∈ deskF p v ∨ w.heap.size ≤ i

theorem add_none (w : World) (x : Wat) : Calls Try.prog 10 #[.pointer none, .string x.name, .int .i64 x.op] w fun e w' => e = .returned (.int .i64 19) ∧ Below w.heap.size w w' := by
  go_enter Try.func10, Try.ntmps10
  go_wp2_with (go_at_call 9; refine (may_none _ x).mono ?_; rintro e W1 ⟨rfl, hb1⟩)
  go_ret
  exact ⟨rfl, hb1⟩

theorem add_no (w : World) (B p : Nat) (room : Int) (v : Value) (L : List Wat) (h : DeskAt B w p room v L) (x : Wat) (hs : x.name.size ≤ 9223372036854775807) (hbig : L.length ≤ 1000000) (c : Int) (hc : mayv room L (nameB x.name.data.toList) x = c) (h0 : c ≠ 0) :
    Calls Try.prog 10 #[.pointer (some ⟨p, 0, none⟩), .string x.name, .int .i64 x.op] w fun e w' => e = .returned (.int .i64 c) ∧ Below w.heap.size w w' := by
  have k := may_any w B p room v L h x hs hbig
  rw [hc] at k
  have K := Lib.hid k
  have hcb : (c != 0) = true := by simpa using h0
  clear k hc h h0
  go_enter Try.func10, Try.ntmps10
  go_wp2_with (go_at_call 9; refine K.out.mono ?_; rintro e W1 ⟨rfl, hb1⟩)
  go_ret
  exact ⟨rfl, hb1⟩

set_option maxRecDepth 100000 in
set_option maxHeartbeats 2000000 in
theorem add_yes (w : World) (B p : Nat) (room : Int) (v : Value) (L : List Wat) (h : DeskAt B w p room v L) (x : Wat) (hs : x.name.size ≤ 9223372036854775807) (hbig : L.length < 1000000) (hc : mayv room L (nameB x.name.data.toList) x = 0) (hB : B ≤ w.heap.size) :
    Calls Try.prog 10 #[.pointer (some ⟨p, 0, none⟩), .string x.name, .int .i64 x.op] w fun e w' => e = .returned (.int .i64 0) ∧ Turned B w p room v (L ++ [x]) w' := by
  have k := may_any w B p room v L h x hs (by omega)
  rw [hc] at k
  have K := Lib.hid k
  clear k hc
  obtain ⟨av, capv, rfl⟩ := h.own.form
  go_enter Try.func10, Try.ntmps10
  go_wp2_with (first
    | (go_at_call 9; refine K.out.mono ?_; rintro e W1 ⟨rfl, hb1⟩; have hD := h.below hb1; have c1 := hD.c1; have f1 := hD.f1)
    | (refine wl_build_rec watOk rfl _ rfl x rfl ?_; have hx2 := built_range (R := watR) (w := W1) x; have hb2 : Below W1.heap.size W1 (W1.alloc (.cells (watR.val x).cells watR.ty)) := (Below.refl _ _).alloc (Nat.le_refl _) _; generalize W1.alloc (.cells (watR.val x).cells watR.ty) = W2 at hx2 hb2 ⊢; have hD2 := hD.below hb2)
    | (refine wl_append_rec watOk rfl _ _ rfl B (.slice av L.length capv) L rfl hD2.own W1.heap.size 0 1 x rfl hx2 hbig (by have := hb2.size; have := hb1.size; omega) ?_; intro g cap W3 hO3 hg3 hat3; obtain ⟨k0, k1, k2, k3⟩ := hD2.grown hg3))
  go_ret
  have hlt := hD2.lt
  have hU3 := (Upd.grown hg3 (fun i hi => deskF_mem.2 (.inr hi) : ∀ i, _ → i ∈ deskF p (.slice av L.length capv)))
  have hU := ((Upd.ofBelow (deskF p (.slice av L.length capv)) (bthen' hb1 hb2)).trans hU3).setCell (p := ⟨p, 1, none⟩) (deskF_mem.2 (.inl rfl)) (.slice (some ⟨g, 0, none⟩) (L.length + 1) cap)
  have hgp : g ≠ p := by
    rcases hat3 with h1 | h1
    · exact fun e => hD2.ne (e ▸ h1)
    · have := (hlt p (deskF_mem.2 (.inl rfl))).2; omega
  refine ⟨rfl, .slice (some ⟨g, 0, none⟩) (L.length + 1) cap, hU, ⟨h.low, ?_, ?_, ?_, ?_, ?_⟩, ?_⟩
  · rw [World.cell?_setCell_other _ _ _ _ (by simp)]; exact k0
  · rw [World.cell?_setCell_same _ _ _ k1]
  · rw [World.frozen?_setCell]; exact k2
  · exact hO3.upd ((Upd.refl [p] W3).setCell (p := ⟨p, 1, none⟩) (by simp) _) (fun k hk => by simp [Value.ownBlock] at hk; subst hk; simp [hgp])
  · simp [Value.ownBlock, hgp]
  · intro i hi
    rcases deskF_mem.1 hi with rfl | hi
    · exact .inl (deskF_mem.2 (.inl rfl))
    · simp [Value.ownBlock] at hi
      subst hi
      rcases hat3 with h1 | h1
      · exact .inl (deskF_mem.2 (.inr h1))
      · right; have := hb1.size; have := hb2.size; omega

/-! ### split, by the one function that is handed to it -/
def opB (op : Int) (x : Wat) : Bool := x.op == op
def yesv (op : Int) (L : List Wat) : List Wat := L.filter (opB op)
def nov (op : Int) (L : List Wat) : List Wat := L.filter (fun x => !opB op x)

theorem take1_any (w : World) (c : Nat) (op : Int) (x : Wat) (hc : w.cell? ⟨c, 0, none⟩ = some (.int .i64 op)) :
    Calls Try.prog 23 #[.agg (watR.cells x).toArray, .pointer (some ⟨c, 0, none⟩)] w fun e w' => e = .returned (.bool (opB op x)) ∧ Below w.heap.size w w' := by
  have hlt := World.block_lt_of_cell? w _ hc
  have hb : Below w.heap.size w (w.alloc (.cells (watR.cells x).toArray 28)) := (Below.refl _ _).alloc (Nat.le_refl _) _
  have hc2 := below_cell hb hc
  have hx := range_arr (R := watR) x (heap_alloc_new w (.cells (watR.cells x).toArray 28))
  have hx1 : (w.alloc (.cells (watR.cells x).toArray 28)).cell? ⟨w.heap.size, 1, none⟩ = some (.int .i64 x.op) := by
    have := hx 1 _ rfl
    simpa using this
  go_enter Try.func23, Try.ntmps23
  go_wp2_with fail
  go_ret
  exact ⟨rfl, hb⟩

/-- Two slices of one's own that share no block. -/
def Dist (u v : Value) : Prop := ∀ k, u.ownBlock = some k → v.ownBlock ≠ some k
/-- Two slices of one's own are handed back. -/
def TwoOf (op : Int) (L : List Wat) (w : World) (e : Ending) (w' : World) : Prop :=
  ∃ y n, e = .returned (.tuple #[y, n]) ∧ Below w.heap.size w w' ∧ Owns watR w.heap.size w' y (yesv op L) ∧ Owns watR w.heap.size w' n (nov op L)

set_option maxRecDepth 100000 in
set_option maxHeartbeats 4000000 in
theorem split_any (w : World) (c : Nat) (op : Int) (v : Value) (L : List Wat) (hv : Reads watR w v L) (hc : w.cell? ⟨c, 0, none⟩ = some (.int .i64 op)) (hbig : L.length < 1000000) :
    Calls Try.prog 22 #[v, .func (.func 23) #[] #[.pointer (some ⟨c, 0, none⟩)]] w (TwoOf op L w) := by
  obtain ⟨av, capv, rfl⟩ := hv.form
  have HV := Lib.hid hv
  clear hv
  go_enter Try.func22, Try.ntmps22
  go_wp2_with fail
  go_loopw [4, 5, 10] (fun y n i wr => ∃ k : Nat, k ≤ L.length ∧ i = .int .i64 k ∧ Below w.heap.size w wr ∧ Owns watR w.heap.size wr y (yesv op (L.take k)) ∧ Owns watR w.heap.size wr n (nov op (L.take k)) ∧ Dist y n) (fun y n i _ => L.length - (intOf i).toNat)
  case atStart => exact ⟨0, by omega, rfl, Below.refl _ _, Owns.nil _ _ _, Owns.nil _ _ _, fun k h => by cases h⟩
  case round =>
    obtain ⟨k, hk, rfl, hW, hO1, hO2, hD⟩ := hrel
    have HO1 := Lib.hid hO1
    have HO2 := Lib.hid hO2
    have HD := Lib.hid hD
    have hc2 := below_cell hW hc
    have hwr := hW.size
    clear hO1 hO2 hD
    by_cases hlt : k < L.length
    · obtain ⟨x, hx⟩ : ∃ x, L[k]? = some x := ⟨_, List.getElem?_eq_getElem hlt⟩
      obtain ⟨b, off, rfl, hr⟩ := (HV.out.below hW).at hx
      have HX := Lib.hid hx
      have hl1 : (yesv op (L.take k)).length ≤ k := by
        have := List.length_filter_le (opB op) (L.take k)
        unfold yesv
        simp at this ⊢; omega
      have hl2 : (nov op (L.take k)).length ≤ k := by
        have := List.length_filter_le (fun x => !opB op x) (L.take k)
        unfold nov
        simp at this ⊢; omega
      clear hx
      cases hq : opB op x with
      | true =>
        have T1 := Lib.hid (show yesv op (L.take k) ++ [x] = yesv op (L.take (k + 1)) from by rw [← take_snoc HX.out]; simp [yesv, hq])
        have T2 := Lib.hid (show nov op (L.take k) = nov op (L.take (k + 1)) from by rw [← take_snoc HX.out]; simp [nov, hq])
        go_wp2_with (first
          | (refine wpList_load_mid rfl 28 _ rfl b (off + k * watR.n) rfl (watR.cells x) _ hr Try.underlying28 rfl (watOk.row x) ?_)
          | (refine wpList_store_mid rfl 28 _ _ rfl wr.heap.size 0 (watR.cells x).toArray rfl rfl (freshR_there watOk wr x) (watOk.row' x) (watOk.one' x) ?_; show wpList _ _ _ _ _ (freshR watR wr x); have hx3 := freshR_range watOk wr x; have hb3 := freshR_below (R := watR) wr x; generalize freshR watR wr x = W3 at hx3 hb3 ⊢; have hc3 := below_cell hb3 hc2)
          | (refine wpList_load_mid rfl 28 _ rfl wr.heap.size 0 rfl (watR.cells x) _ hx3 Try.underlying28 rfl (watOk.row x) ?_)
          | (go_at_call 23; refine (take1_any _ c op x hc3).mono ?_; rintro e W4 ⟨rfl, hb4⟩; have hx4 := below_range hb4 hx3; rw [hq])
          | (refine wpList_load_mid rfl 28 _ rfl wr.heap.size 0 rfl (watR.cells x) _ hx4 Try.underlying28 rfl (watOk.row x) ?_)
          | (refine wl_build_rec watOk rfl _ rfl x rfl ?_; have hx5 := built_range (R := watR) (w := W4) x; have hb5 : Below W4.heap.size W4 (W4.alloc (.cells (watR.val x).cells watR.ty)) := (Below.refl _ _).alloc (Nat.le_refl _) _; generalize W4.alloc (.cells (watR.val x).cells watR.ty) = W5 at hx5 hb5 ⊢; have hbT := bthen' (bthen' hb3 hb4) hb5; have hOm := HO1.out.below hbT; have hOo := HO2.out.below hbT; have hszT := hbT.size)
          | (refine wl_append_rec watOk rfl _ _ rfl w.heap.size u4 (yesv op (L.take k)) rfl hOm W4.heap.size 0 1 x rfl hx5 (by omega) (by omega) ?_; intro g cap W6 hO6 hg6 hat6))
        rw [T1.out] at hO6
        have hOo6 := hOo.grown (u := u4) hg6 (fun k h1 h2 => HD.out k h2 h1)
        rw [T2.out] at hOo6
        have hW6 := (bthen' hW hbT).grown hg6 (by omega) (fun k hk => (hOm.lt k hk).1)
        have hlo := hOo.lt
        have HL6 := Lib.hid (show (yesv op (L.take (k + 1))).length = (yesv op (L.take k)).length + 1 from by rw [← T1.out]; simp)
        have hD6 : Dist (.slice (some ⟨g, 0, none⟩) ((yesv op (L.take k)).length + 1) cap) u5 := by
          intro j h1 h2
          simp [Value.ownBlock] at h1
          subst h1
          rcases hat6 with h3 | h3
          · exact HD.out _ h3 h2
          · have := (hlo _ h2).2; omega
        go_roundw
        case rel => exact ⟨k + 1, by omega, by go_num, hW6, hO6, hOo6, hD6⟩
        case measure => simp [intOf]; omega
      | false =>
        have T1 := Lib.hid (show nov op (L.take k) ++ [x] = nov op (L.take (k + 1)) from by rw [← take_snoc HX.out]; simp [nov, hq])
        have T2 := Lib.hid (show yesv op (L.take k) = yesv op (L.take (k + 1)) from by rw [← take_snoc HX.out]; simp [yesv, hq])
        go_wp2_with (first
          | (refine wpList_load_mid rfl 28 _ rfl b (off + k * watR.n) rfl (watR.cells x) _ hr Try.underlying28 rfl (watOk.row x) ?_)
          | (refine wpList_store_mid rfl 28 _ _ rfl wr.heap.size 0 (watR.cells x).toArray rfl rfl (freshR_there watOk wr x) (watOk.row' x) (watOk.one' x) ?_; show wpList _ _ _ _ _ (freshR watR wr x); have hx3 := freshR_range watOk wr x; have hb3 := freshR_below (R := watR) wr x; generalize freshR watR wr x = W3 at hx3 hb3 ⊢; have hc3 := below_cell hb3 hc2)
          | (refine wpList_load_mid rfl 28 _ rfl wr.heap.size 0 rfl (watR.cells x) _ hx3 Try.underlying28 rfl (watOk.row x) ?_)
          | (go_at_call 23; refine (take1_any _ c op x hc3).mono ?_; rintro e W4 ⟨rfl, hb4⟩; have hx4 := below_range hb4 hx3; rw [hq])
          | (refine wpList_load_mid rfl 28 _ rfl wr.heap.size 0 rfl (watR.cells x) _ hx4 Try.underlying28 rfl (watOk.row x) ?_)
          | (refine wl_build_rec watOk rfl _ rfl x rfl ?_; have hx5 := built_range (R := watR) (w := W4) x; have hb5 : Below W4.heap.size W4 (W4.alloc (.cells (watR.val x).cells watR.ty)) := (Below.refl _ _).alloc (Nat.le_refl _) _; generalize W4.alloc (.cells (watR.val x).cells watR.ty) = W5 at hx5 hb5 ⊢; have hbT := bthen' (bthen' hb3 hb4) hb5; have hOm := HO2.out.below hbT; have hOo := HO1.out.below hbT; have hszT := hbT.size)
          | (refine wl_append_rec watOk rfl _ _ rfl w.heap.size u5 (nov op (L.take k)) rfl hOm W4.heap.size 0 1 x rfl hx5 (by omega) (by omega) ?_; intro g cap W6 hO6 hg6 hat6))
        rw [T1.out] at hO6
        have hOo6 := hOo.grown (u := u5) hg6 (fun k h1 h2 => HD.out k h1 h2)
        rw [T2.out] at hOo6
        have hW6 := (bthen' hW hbT).grown hg6 (by omega) (fun k hk => (hOm.lt k hk).1)
        have hlo := hOo.lt
        have HL6 := Lib.hid (show (nov op (L.take (k + 1))).length = (nov op (L.take k)).length + 1 from by rw [← T1.out]; simp)
        have hD6 : Dist u4 (.slice (some ⟨g, 0, none⟩) ((nov op (L.take k)).length + 1) cap) := by
          intro j h1 h2
          simp [Value.ownBlock] at h2
          subst h2
          rcases hat6 with h3 | h3
          · exact HD.out _ h1 h3
          · have := (hlo _ h1).2; omega
        go_roundw
        case rel => exact ⟨k + 1, by omega, by go_num, hW6, hOo6, hO6, hD6⟩
        case measure => simp [intOf]; omega
    · obtain rfl : k = L.length := by omega
      have HT := Lib.hid (List.take_length (l := L))
      go_wp2_with fail
      go_ret2
      exact ⟨u4, u5, rfl, hW, by rw [HT.out] at HO1; exact HO1.out, by rw [HT.out] at HO2; exact HO2.out⟩

end Go.Proofs.Ytbghodknnejihaa
