/- Calls of a box: the calls as values; the round of the statement on calls. -/
import Derived.Test.YtchkbbkcflmcmaaDeadOpen
import Derived.Deep.LoopGhost
import Derived.Deep.CutRange
import Derived.Deep.DeepCutAuto
import Derived.Deep.CutBlock
set_option linter.unusedVariables false
namespace Go.Proofs.Ytchkbbkcflmcmaa
open Go.ChangeShapes Go.WideShapes Go.ChangeAt Go.RowKit Go.Deep

/-- A call of a box. -/
structure Ac where
  kind : Int
  most : Int
  x : Let

def Ac.cells (a : Ac) : List Value := .int .i64 a.kind :: .int .i64 a.most :: a.x.cells
def zeroAc : Ac := ⟨0, 0, zeroLet⟩

theorem cells31 : Try.prog.cellsOf 31 = 8 := by kernel_rfl

theorem act_cells {H : Type} {enc : TypeId × Value → H} {W : World} {base fuel : Nat} {spare : Nat → Bool} {held : Bool} {cs : List Value} {x : DataW H × List MemPlace} (hl8 : cs.length = 8)
    (h : DataW.trod enc Try.prog W base spare held fuel 31 cs = some x) : ∃ y : Ac, cs = y.cells := by
  obtain ⟨ys, m, _, rfl, _, hl, hf⟩ := DataW.trod_struct Try.underlying31 h
  match cs, hl8 with
  | [a, b, c, d, e, f, g, i], _ =>
  match ys, hl with
  | [y0, y1, y2], _ =>
  have hy0 := hf 0 _ rfl
  have hy1 := hf 1 _ rfl
  have hy2 := hf 2 _ rfl
  simp [cells3, cells29] at hy0 hy1 hy2
  obtain ⟨A, eA, -, -⟩ := DataW.trod_int Try.underlying3 hy0
  obtain ⟨B, eB, -, -⟩ := DataW.trod_int Try.underlying3 hy1
  obtain ⟨X, eX⟩ := let_cells rfl hy2
  simp at eA eB
  exact ⟨⟨A, B, X⟩, by rw [eA, eB, eX]; rfl⟩

/-- A slice that reads as calls. -/
def Acs (w : World) (v : Value) (L : List Ac) : Prop :=
  (L = [] ∧ ∃ a cap, v = .slice a 0 cap) ∨ (∃ b off cap, v = .slice (some ⟨b, off, none⟩) L.length cap ∧ ∀ i x, L[i]? = some x → w.rangeAt b (off + i * 8) x.cells)
theorem Acs.below {w w' : World} {v : Value} {L : List Ac} (h : Acs w v L) (hb : Below w.heap.size w w') : Acs w' v L := by
  rcases h with h | ⟨b, off, cap, hv, hr⟩
  · exact .inl h
  · exact .inr ⟨b, off, cap, hv, fun i x hx => below_range hb (hr i x hx)⟩
theorem Acs.form {w : World} {v : Value} {L : List Ac} (h : Acs w v L) : ∃ a cap, v = .slice a L.length cap := by
  rcases h with ⟨rfl, a, cap, rfl⟩ | ⟨b, off, cap, rfl, _⟩
  · exact ⟨a, cap, rfl⟩
  · exact ⟨_, cap, rfl⟩
theorem Acs.at {w : World} {a : Option Addr} {n cap : Nat} {L : List Ac} (h : Acs w (.slice a n cap) L) {k : Nat} {x : Ac} (hx : L[k]? = some x) : ∃ b off, a = some ⟨b, off, none⟩ ∧ w.rangeAt b (off + k * 8) x.cells := by
  rcases h with ⟨rfl, _⟩ | ⟨b, off, cap, hv, hr⟩
  · simp at hx
  · simp only [Value.slice.injEq] at hv
    exact ⟨b, off, hv.1, hr k x hx⟩

theorem openActs {H : Type} {enc : TypeId × Value → H} {W : World} {b0 base : Nat} {r : Reach} {spare : Nat → Bool} {held : Bool} {v : Value} {d : DataW H} {p : List MemPlace}
    (hv : Value.okWide Try.prog W r b0 22 v) (h : DataW.Trod enc Try.prog W base spare held 22 v d p) : ∃ L : List Ac, Acs W v L := by
  obtain ⟨a0, len0, cap0, rfl⟩ := okWide_slice Try.underlying22 hv
  obtain ⟨fuel, hf⟩ := h
  rcases open_slice Try.underlying22 hf with ⟨hcs, _⟩ | ⟨a, len, cap, m, n, D, Pl, hcs, hb, hl, hm, hmm, hx, hi⟩
  · simp [Value.cells] at hcs
    obtain ⟨rfl, rfl, rfl⟩ := hcs
    exact ⟨[], .inl ⟨rfl, none, 0, rfl⟩⟩
  · simp [Value.cells] at hcs
    obtain ⟨rfl, rfl, rfl⟩ := hcs
    rw [cells31] at hi
    have hlm : len0 ≤ m := by rw [hmm]; split <;> omega
    have hy : ∀ i, i < len0 → ∃ y : Ac, ∀ j u, y.cells[j]? = some u → W.cell? ((a.add (i * 8)).add j) = some u := by
      intro i hil
      obtain ⟨cs', hc, ht'⟩ := hi i (by omega)
      obtain ⟨_, hcl, hat⟩ := World.cells?_some hc
      obtain ⟨y, rfl⟩ := act_cells hcl ht'
      exact ⟨y, fun j u hu => by rw [hat j (List.getElem?_eq_some_iff.1 hu).1, hu]⟩
    by_cases h0 : len0 = 0
    · subst h0; exact ⟨[], .inl ⟨rfl, _, _, rfl⟩⟩
    · have hs : a.spot = none := by
        obtain ⟨y, h1⟩ := hy 0 (by omega)
        have h2 := h1 0 _ rfl
        simpa [Addr.add] using World.cell?_spot h2
      obtain ⟨b, off, sp⟩ := a
      simp only at hs
      subst hs
      let f : Nat → Ac := fun i => if h : i < len0 then Classical.choose (hy i h) else zeroAc
      refine ⟨(List.range len0).map f, .inr ⟨b, off, cap0, by simp, fun i y hiy => ?_⟩⟩
      have hil : i < len0 := by have := (List.getElem?_eq_some_iff.1 hiy).1; simpa using this
      have hfy : f i = y := by simpa [hil] using hiy
      have hf2 : f i = Classical.choose (hy i hil) := dif_pos hil
      intro j u hu
      rw [← hfy, hf2] at hu
      have := Classical.choose_spec (hy i hil) j u hu
      rwa [Addr.add_mid, Addr.add_mid] at this

theorem acRow (x : Ac) : (Try.prog.info? 31).map (·.size) = some x.cells.length := by
  show _ = some 8
  kernel_rfl
theorem acRow' (x : Ac) : (Try.prog.info? 31).map (·.size) = some x.cells.toArray.size := acRow x
theorem ac_one (x : Ac) : ∀ v ∈ x.cells, v.oneCell' = true := by
  intro v hv
  simp only [Ac.cells, List.mem_cons] at hv
  rcases hv with rfl | rfl | hv
  · rfl
  · rfl
  · exact let_one x.x v hv
theorem ac_one' (x : Ac) : x.cells.toArray.all (·.oneCell') = true := all_oneCell_toArray (ac_one x)

/-- The world behind a new variable that holds a call. -/
def freshA (w : World) (x : Ac) : World := (w.alloc (.cells zeroAc.cells.toArray 31)).setCells w.heap.size 0 x.cells
theorem freshA_there (w : World) (x : Ac) : (w.alloc (.cells zeroAc.cells.toArray 31)).there w.heap.size 0 x.cells.toArray.size := there_row (heap_alloc_new w (.cells zeroAc.cells.toArray 31)) 8 (Nat.le_refl _)
theorem freshA_range (w : World) (x : Ac) : (freshA w x).rangeAt w.heap.size 0 x.cells := World.rangeAt_setCells_same _ _ _ _ (there_row (heap_alloc_new w (.cells zeroAc.cells.toArray 31)) 8 (Nat.le_refl _))
theorem freshA_below (w : World) (x : Ac) : Below w.heap.size w (freshA w x) :=
  ((Upd.refl [w.heap.size] _).setCells (by simp) 0 x.cells).toBelow ((Below.refl _ _).alloc (Nat.le_refl _) _) (by simp) (by simp)
theorem freshA_size (w : World) (x : Ac) : (freshA w x).heap.size = w.heap.size + 1 := by
  unfold freshA
  rw [Upd.size_setCells]; simp

theorem ac_parts {w : World} {b : Nat} {x : Ac} (h : w.rangeAt b 0 x.cells) : w.cell? ⟨b, 0, none⟩ = some (.int .i64 x.kind) ∧ w.cell? ⟨b, 1, none⟩ = some (.int .i64 x.most) ∧ w.rangeAt b 2 x.x.cells ∧ w.cell? ⟨b, 2, none⟩ = some (.int .i64 x.x.id) := by
  have h2 : w.rangeAt b 2 x.x.cells := fun j v hv => by
    have := h (2 + j) v (by rw [Nat.add_comm]; exact hv)
    rwa [Nat.zero_add] at this
  refine ⟨?_, ?_, h2, ?_⟩
  · simpa using h 0 _ rfl
  · simpa using h 1 _ rfl
  · simpa using h2 0 _ rfl

theorem deadActs_far (w : World) (room : Int) (v : Value) (A : List Ac) (hv : Acs w v A) (h : 150 < A.length ∨ 1024 < room) :
    Calls Try.prog 3 #[.int .i64 room, v] w fun e w' => e = .returned (.bool true) ∧ Below w.heap.size w w' := by
  obtain ⟨av, capv, rfl⟩ := hv.form
  by_cases h1 : 150 < A.length
  · go_enter Try.func3, Try.ntmps3
    go_wp2_with (go_at_call 5; refine (live33_any _).mono ?_; rintro e w1 ⟨rfl, hb1⟩)
    go_ret
    exact ⟨rfl, hb1⟩
  · have h2 : 1024 < room := by rcases h with h | h; exact absurd h h1; exact h
    go_enter Try.func3, Try.ntmps3
    go_wp2_with (go_at_call 5; refine (live33_any _).mono ?_; rintro e w1 ⟨rfl, hb1⟩)
    go_ret
    exact ⟨rfl, hb1⟩

theorem deadActs_low (w : World) (room : Int) (v : Value) (A : List Ac) (hv : Acs w v A) (h1 : A.length ≤ 150) (h : room < 1) :
    Calls Try.prog 3 #[.int .i64 room, v] w fun e w' => e = .returned (.bool true) ∧ Below w.heap.size w w' := by
  obtain ⟨av, capv, rfl⟩ := hv.form
  go_enter Try.func3, Try.ntmps3
  go_wp2_with (first
    | (go_at_call 6; refine (new_none _ _ h).mono ?_; rintro e w' ⟨rfl, rfl⟩)
    | (go_at_call 5; refine (live33_any _).mono ?_; rintro e w1 ⟨rfl, hb1⟩))
  go_ret
  exact ⟨rfl, hb1⟩

/-- What a call leaves of the letters. -/
def actv (room : Int) (a : Ac) (L : List Let) : List Let := if a.kind = 0 then putv room L a.x else if a.kind = 1 then purgev a.x.id L else L

theorem quiet_build0 {C : World → Prop} {K : Act → Prop} {a : Act} {o : Oper} (ho : o.op = .build 29 #[]) (h : K (a.put o.dst (.agg zeroLet.cells.toArray))) : o.quiet Try.prog a C K :=
  ⟨.agg zeroLet.cells.toArray, fun w hw => by
    unfold Oper.quietAt execOp
    simp only [ho]
    have e : (Instr.build 29 #[]).run Try.prog w = .ok (.agg zeroLet.cells.toArray) w := by kernel_rfl
    simp [e, Oper.quietUpon], h⟩

theorem box_room {w : World} {p g room f : Nat} {L : List Let} (h : BoxAt w p g room f L) : p < w.heap.size ∧ g < w.heap.size ∧ L.length ≤ room ∧ room ≤ 1024 := by
  obtain ⟨h0, h1, R, h2, _⟩ := h
  refine ⟨World.block_lt_of_cell? w _ h2.c1, ?_, h1, h2.room1⟩
  obtain ⟨u, hu⟩ := Option.isSome_iff_exists.1 (h2.th 0 h2.room0 0 (by omega)).1
  exact World.block_lt_of_cell? w _ hu

/-- What stands at a round's head. -/
structure Stands (w wr : World) (p g room : Nat) (v : Value) (L : List Let) : Prop where
  below : Below w.heap.size w wr
  box : ∃ f, BoxAt wr p g room f L
  lts : LtsOut [p, g] wr v L

theorem close_put {w W3 W4 W6 W7 : World} {p g room f' : Nat} {a : Ac} {L M : List Let} {v7 : Value} {B : Nat} (hAct : Hid (actv room a L = M)) (hp : p < W6.heap.size ∧ g < W6.heap.size) (hpg : w.heap.size ≤ p ∧ w.heap.size ≤ g)
    (hW3 : Below w.heap.size w W3) (hx3 : W3.rangeAt B 0 a.cells) (hU4 : Upd [p, g] W3 W4) (hB4 : BoxAt W4 p g room f' M) (hb47 : Below W4.heap.size W4 W7) (hL7 : LtsAt W6.heap.size W7 v7 M) (hn : B ∉ [p, g]) :
    Stands w W7 p g room v7 (actv room a L) ∧ W7.rangeAt B 0 a.cells := by
  rw [hAct.out]
  refine ⟨⟨bthen' (hU4.toBelow hW3 hW3.size (by simp; omega)) hb47, ⟨f', hB4.below hb47⟩, hL7.out _ (by simp; omega)⟩, below_range hb47 (hU4.range hn hx3)⟩

set_option maxRecDepth 100000 in
set_option maxHeartbeats 4000000 in
theorem deadActs_yes (w : World) (room : Nat) (v : Value) (A : List Ac) (hv : Acs w v A) (h1 : A.length ≤ 150) (h2 : room ≤ 1024) (h3 : 1 ≤ room) :
    Calls Try.prog 3 #[.int .i64 room, v] w fun e w' => e = .returned (.bool true) ∧ Below w.heap.size w w' := by
  obtain ⟨av, capv, rfl⟩ := hv.form
  have HV := Lib.hid hv
  clear hv
  go_enter Try.func3, Try.ntmps3
  go_wp2_with fail
  go_at_call 6; refine (new_any _ room h3 h2).mono ?_; rintro e W1 ⟨p, g, rfl, hb1, hp, hg, hB1⟩
  go_wp2_with fail
  go_loopg [6, 7] A.length (fun n v6 i wr => ∃ k L, k ≤ A.length ∧ n = A.length - k ∧ i = .int .i64 (k : Nat) ∧ Stands w wr p g room v6 L)
  case atStart =>
    refine ⟨0, [], by omega, by omega, rfl, bthen' hb1 ((Below.refl _ _).alloc (Nat.le_refl _) _), ⟨0, hB1.below ((Below.refl _ _).alloc (Nat.le_refl _) _)⟩, .inl ⟨rfl, _, _, rfl⟩⟩
  case round =>
    obtain ⟨k, L, hk, rfl, rfl, hS⟩ := hrel
    have hsw := hS.below.size
    obtain ⟨a6, cap6, rfl⟩ := hS.lts.lts.form
    by_cases hlt : k < A.length
    · obtain ⟨a, ha⟩ : ∃ a, A[k]? = some a := ⟨_, List.getElem?_eq_getElem hlt⟩
      obtain ⟨b, off, rfl, hr2⟩ := (HV.out.below hS.below).at ha
      have HA := Lib.hid ha
      have HS := Lib.hid hS
      clear ha hS
      go_upto_block 2 with (first
        | (refine wpList_load_mid rfl 31 _ rfl b (off + k * 8) rfl a.cells _ hr2 Try.underlying31 rfl (acRow a) ?_)
        | (refine wpList_store_mid rfl 31 _ _ rfl wr.heap.size 0 a.cells.toArray rfl rfl (freshA_there wr a) (acRow' _) (ac_one' _) ?_; show wpList _ _ _ _ _ (freshA wr a); have hx3 := freshA_range wr a; have hb3 := freshA_below wr a; have hs3 := freshA_size wr a; generalize freshA wr a = W3 at hx3 hb3 hs3 ⊢; obtain ⟨c0, c1, hx4, c2⟩ := ac_parts hx3))
      go_cut [6] from 42 to 122 (fun v6 wc => Stands w wc p g room v6 (actv room a L) ∧ wc.rangeAt wr.heap.size 0 a.cells)
      case first =>
        obtain ⟨⟨f, hB⟩, hlts⟩ := And.intro HS.out.box HS.out.lts
        obtain ⟨hpl, hgl, hlr, -⟩ := box_room hB
        have hB3 := hB.below hb3
        have hL3 := Lib.hid ((hlts.upd (Upd.ofBelow [p, g] hb3)))
        have hW3 := bthen' HS.out.below hb3
        by_cases h0 : a.kind = 0
        · have e0 : (a.kind == 0) = true := by simp [h0]
          have hAct := Lib.hid (show actv room a L = putv room L a.x from if_pos h0)
          clear h0 hB hlts
          by_cases hn : L.length < room
          · have hlb : ((L.length : Int) == (room : Int)) = false := by simp; omega
            go_wp2_with (first
              | (refine wpList_load_mid rfl 29 _ rfl wr.heap.size 2 rfl a.x.cells _ hx4 Try.underlying29 rfl (letRow a.x) ?_)
              | (go_at_call 7; refine (put_room _ p g room f L hB3 a.x hn).mono ?_; rintro e W4 ⟨rfl, hU4, hB4⟩)
              | (refine wpList_store_mid rfl 29 _ _ rfl W4.heap.size 0 zeroLet.cells.toArray rfl rfl (fresh_there W4 zeroLet) (let_size' _) (let_one' _) ?_; show wpList _ _ _ _ _ (freshW W4 zeroLet); have hx5 := fresh_range W4 zeroLet; have hb5 := fresh_below W4 zeroLet; generalize freshW W4 zeroLet = W5 at hx5 hb5 ⊢))
            have HG := letGuard
            have hzz := fun w => let_eq 9998 zeroLet zeroLet w
            have R5 := Lib.hid (fun (w' : World) (hx : ∃ x : Later W5, w' = x.w) => (show w'.rangeAt W4.heap.size 0 zeroLet.cells from by obtain ⟨z, rfl⟩ := hx; exact below_range z.h hx5))
            refine wp_region_later (by kernel_rfl) (by kernel_rfl) (Below.refl _ _) ?_
            repeat (first
              | go_big_quiet_skip
              | (go_big_quiet_want; first
                | (refine quiet_load_mid 29 _ rfl W4.heap.size 0 rfl zeroLet.cells _ R5.out Try.underlying29 rfl (letRow zeroLet) ?_; simp only [Act.put, List.setIfInBounds_toArray, List.set_cons_succ, List.set_cons_zero]; go_big_quiet_on)
                | (refine quiet_build0 rfl ?_; simp only [Act.put, List.setIfInBounds_toArray, List.set_cons_succ, List.set_cons_zero]; go_big_quiet_on)
                | (go_big_quiet_op; go_big_quiet_on)))
            refine wpQuiet_nil ?_
            rintro ⟨W6, hb6⟩
            dsimp only
            clear HG hzz
            have hb46 := bthen' hb5 hb6
            have hx6 := below_range hb46 (hU4.range (by simp; omega) hx4)
            go_wp2_with (first
              | (refine wpList_load_mid rfl 29 _ rfl wr.heap.size 2 rfl a.x.cells _ hx6 Try.underlying29 rfl (letRow a.x) ?_)
              | (go_at_call 8; refine (refPut_at W6 room _ a.x L ((hL3.out.upd hU4).upd (Upd.ofBelow [p, g] hb46)).lts (by omega)).mono ?_; rintro e W7 ⟨v7, rfl, hb7, hL7⟩))
            go_meet
            have hpW : p < W6.heap.size ∧ g < W6.heap.size := by have := hb46.size; have := hU4.size; have := hb3.size; omega
            exact close_put (Lib.hid (hAct.out.trans (show putv room L a.x = L ++ [a.x] from if_neg (by omega)))) hpW ⟨hp, hg⟩ hW3 hx3 hU4 hB4 (bthen' hb46 hb7) (by rw [show (if (room : Int) < (L.length : Int) + 1 then (L ++ [a.x]).tail else L ++ [a.x]) = L ++ [a.x] from if_neg (by omega)] at hL7; exact hL7) (by simp; omega)
          · obtain ⟨y, hy⟩ : ∃ y, L[0]? = some y := ⟨_, List.getElem?_eq_getElem (by omega)⟩
            have hlb : ((L.length : Int) == (room : Int)) = true := by simp; omega
            have hl0 : 0 < L.length := by omega
            obtain ⟨b6, off6, rfl, hnb6, hr6⟩ : ∃ b6 off6, a6 = some ⟨b6, off6, none⟩ ∧ b6 ∉ [p, g] ∧ W3.rangeAt b6 off6 y.cells := by
              rcases hL3.out with ⟨h, _⟩ | ⟨b6, off6, cap, hv, hn, hr⟩
              · rw [h] at hl0; simp at hl0
              · simp only [Value.slice.injEq] at hv
                exact ⟨b6, off6, hv.1, hn, by have := hr 0 y hy; rwa [Nat.zero_mul, Nat.add_zero] at this⟩
            have HY := Lib.hid hy
            clear hy
            go_wp2_with (first
              | (refine wpList_load_mid rfl 29 _ rfl wr.heap.size 2 rfl a.x.cells _ hx4 Try.underlying29 rfl (letRow a.x) ?_)
              | (go_at_call 7; refine (put_full _ p g room f L hB3 a.x y (by omega) HY.out).mono ?_; rintro e W4 ⟨rfl, hU4, hB4⟩)
              | (refine wpList_store_mid rfl 29 _ _ rfl W4.heap.size 0 y.cells.toArray rfl rfl (fresh_there W4 y) (let_size' _) (let_one' _) ?_; show wpList _ _ _ _ _ (freshW W4 y); have hx5 := fresh_range W4 y; have hb5 := fresh_below W4 y; generalize freshW W4 y = W5 at hx5 hb5 ⊢))
            have HG := letGuard
            have hzz := fun w => let_eq 9998 y y w
            have R5 := Lib.hid (fun (w' : World) (hx : ∃ x : Later W5, w' = x.w) => (show w'.rangeAt W4.heap.size 0 y.cells from by obtain ⟨z, rfl⟩ := hx; exact below_range z.h hx5))
            have R6 := Lib.hid (fun (w' : World) (hx : ∃ x : Later W5, w' = x.w) => (show w'.rangeAt b6 off6 y.cells from by obtain ⟨z, rfl⟩ := hx; exact below_range z.h (below_range hb5 (hU4.range hnb6 hr6))))
            refine wp_region_later (by kernel_rfl) (by kernel_rfl) (Below.refl _ _) ?_
            repeat (first
              | go_big_quiet_skip
              | (go_big_quiet_want; first
                | (refine quiet_load_mid 29 _ rfl W4.heap.size 0 rfl y.cells _ R5.out Try.underlying29 rfl (letRow y) ?_; simp only [Act.put, List.setIfInBounds_toArray, List.set_cons_succ, List.set_cons_zero]; go_big_quiet_on)
                | (refine quiet_load_mid 29 _ rfl b6 off6 rfl y.cells _ R6.out Try.underlying29 rfl (letRow y) ?_; simp only [Act.put, List.setIfInBounds_toArray, List.set_cons_succ, List.set_cons_zero]; go_big_quiet_on)
                | (go_big_quiet_op; go_big_quiet_on)))
            refine wpQuiet_nil ?_
            rintro ⟨W6, hb6⟩
            dsimp only
            clear HG hzz
            have hb46 := bthen' hb5 hb6
            have hx6 := below_range hb46 (hU4.range (by simp; omega) hx4)
            go_wp2_with (first
              | (refine wpList_load_mid rfl 29 _ rfl wr.heap.size 2 rfl a.x.cells _ hx6 Try.underlying29 rfl (letRow a.x) ?_)
              | (go_at_call 8; refine (refPut_at W6 room _ a.x L ((hL3.out.upd hU4).upd (Upd.ofBelow [p, g] hb46)).lts (by omega)).mono ?_; rintro e W7 ⟨v7, rfl, hb7, hL7⟩))
            go_meet
            have hpW : p < W6.heap.size ∧ g < W6.heap.size := by have := hb46.size; have := hU4.size; have := hb3.size; omega
            exact close_put (Lib.hid (hAct.out.trans (show putv room L a.x = L.tail ++ [a.x] from by unfold putv; rw [if_pos (by omega), List.tail_append_of_ne_nil (by intro e; rw [e] at hl0; simp at hl0)]))) hpW ⟨hp, hg⟩ hW3 hx3 hU4 hB4 (bthen' hb46 hb7) (by rw [show (if (room : Int) < (L.length : Int) + 1 then (L ++ [a.x]).tail else L ++ [a.x]) = L.tail ++ [a.x] from by rw [if_pos (by omega), List.tail_append_of_ne_nil (by intro e; rw [e] at hl0; simp at hl0)]] at hL7; exact hL7) (by simp; omega)
        · have e0 : (a.kind == 0) = false := by simp [h0]
          by_cases h1 : a.kind = 1
          · have e1 : (a.kind == 1) = true := by simp [h1]
            have hAct := Lib.hid (show actv room a L = purgev a.x.id L from by unfold actv; rw [if_neg h0, if_pos h1])
            clear h0 h1 hB hlts
            have hple := purgev_le a.x.id L
            go_wp2_with (first
              | (go_at_call 9; refine (refPurge_any W3 _ L hL3.out.lts (by omega) a.x.id).mono ?_; rintro e W4 ⟨v4, rfl, hb4, hO4⟩; obtain ⟨a4, cap4, rfl⟩ := hO4.form; have c24 := below_cell hb4 c2)
              | (go_at_call 10; refine (purge_any _ p g room f L (hB3.below hb4) a.x.id).mono ?_; rintro e W5 ⟨rfl, hU5, hB5⟩))
            go_meet
            have hW4 := bthen' hW3 hb4
            refine ⟨⟨hU5.toBelow hW4 hW4.size (by simp; omega), ⟨0, by rw [hAct.out]; exact hB5⟩, ?_⟩, hU5.range (by simp; omega) (below_range hb4 hx3)⟩
            rw [hAct.out]
            exact (hO4.out [p, g] (by simp; omega)).upd hU5
          · have e1 : (a.kind == 1) = false := by simp [h1]
            have hAct := Lib.hid (show actv room a L = L from by unfold actv; rw [if_neg h0, if_neg h1])
            clear h0 h1 hB hlts
            go_wp2_with fail
            go_meet
            exact ⟨⟨hW3, ⟨f, by rw [hAct.out]; exact hB3⟩, by rw [hAct.out]; exact hL3.out⟩, hx3⟩
      case rest =>
        obtain ⟨hS2, hx2⟩ := hcut
        generalize actv room a L = M at hS2
        obtain ⟨a6', cap6', rfl⟩ := hS2.lts.lts.form
        obtain ⟨f2, hB2⟩ := hS2.box
        obtain ⟨hp2, hg2, hM2, -⟩ := box_room hB2
        have HL2 := Lib.hid hS2.lts.lts
        have HW2 := Lib.hid hS2.below
        have HS2 := Lib.hid hS2
        clear hS2
        clear hx3 hx4 c0 c1 c2 hb3 hs3
        obtain ⟨d0, d1, hx5, d2⟩ := ac_parts hx2
        clear hx5 d0
        have hM3 : M.length ≤ 1000000 := by omega
        have hM4 : M.length ≤ 100000 := by omega
        have hM5 : (listv a.x.id a.most M).length ≤ 1000000 := by have := listv_le a.x.id a.most M; omega
        have H3 := Lib.hid hM3
        have H4 := Lib.hid hM4
        have H5 := Lib.hid hM5
        clear hM3 hM4 hM5 hM2
        go_wp2_with fail
        go_region_held3 (fun w' => w'.cell? ⟨wr.heap.size, 1, none⟩ = some (.int .i64 a.most) ∧ w'.cell? ⟨wr.heap.size, 2, none⟩ = some (.int .i64 a.x.id)) (first | exact ⟨d1, d2⟩ | exact ⟨k11, k12⟩ | exact ⟨k21, k22⟩ | exact ⟨k31, k32⟩ | exact ⟨k41, k42⟩ | exact ⟨k51, k52⟩ | exact ⟨k61, k62⟩ | exact ⟨(World.cell?_drew _ _).trans d1, (World.cell?_drew _ _).trans d2⟩) (first
          | (go_at_call 12; refine (all_any _ p g room f2 M (hB2.below (Below.refl _ _).drew)).mono ?_; rintro e W9 ⟨v9, rfl, hb9, hO9⟩; have k11 := below_cell hb9 ((World.cell?_drew _ _).trans d1); have k12 := below_cell hb9 ((World.cell?_drew _ _).trans d2))
          | (go_at_call 11; with_reducible refine (letters_any _ _ _ M M hO9.lts (((HL2.out.below (Below.refl _ _).drew)).below hb9) H3.out).mono ?_; rintro e W10 ⟨rfl, hb10⟩; have k21 := below_cell hb10 k11; have k22 := below_cell hb10 k12; have HB10 := Lib.hid (((hB2.below (Below.refl _ _).drew).below hb9).below hb10); have HL10 := Lib.hid (((HL2.out.below (Below.refl _ _).drew).below hb9).below hb10))
          | (go_at_call 13; first
            | (refine (list_any _ p g room f2 M (HB10.out.below hb12) a.x.id a.most).mono ?_; rintro e W11 ⟨v11, rfl, hb11, hO11⟩; have k51 := below_cell hb11 k41; have k52 := below_cell hb11 k42)
            | (refine (list_any _ p g room f2 M HB10.out a.x.id a.most).mono ?_; rintro e W11 ⟨v11, rfl, hb11, hO11⟩; have k31 := below_cell hb11 k21; have k32 := below_cell hb11 k22))
          | (go_at_call 14; first
            | (refine (refList_any _ _ M (HL10.out.below hb11) H4.out a.x.id a.most).mono ?_; rintro e W12 ⟨v12, rfl, hb12, hO12⟩; have k51 := below_cell hb12 k31; have k52 := below_cell hb12 k32)
            | (refine (refList_any _ _ M HL10.out H4.out a.x.id a.most).mono ?_; rintro e W12 ⟨v12, rfl, hb12, hO12⟩; have k41 := below_cell hb12 k21; have k42 := below_cell hb12 k22))
          | (go_at_call 11; first
            | (refine (letters_any _ _ _ (listv a.x.id a.most M) (listv a.x.id a.most M) (hO11.lts.below hb12) hO12.lts H5.out).mono ?_; rintro e W13 ⟨rfl, hb13⟩; have k61 := below_cell hb13 k51; have k62 := below_cell hb13 k52; have hbT := bthen' (bthen' (bthen' (bthen' (bthen' (Below.refl _ _).drew hb9) hb10) hb11) hb12) hb13)
            | (refine (letters_any _ _ _ (listv a.x.id a.most M) (listv a.x.id a.most M) hO11.lts (hO12.lts.below hb11) H5.out).mono ?_; rintro e W13 ⟨rfl, hb13⟩; have k61 := below_cell hb13 k51; have k62 := below_cell hb13 k52; have hbT := bthen' (bthen' (bthen' (bthen' (bthen' (Below.refl _ _).drew hb9) hb10) hb12) hb11) hb13)))
        all_goals
          clear k11 k12 k21 k22 k51 k52 k61 k62 d1 d2
          go_wp2_with fail
          go_roundg (A.length - (k + 1))
          case measure => omega
          case rel => exact ⟨k + 1, M, by omega, rfl, by go_num, ⟨bthen' HW2.out hbT, HS2.out.box.elim fun f h => ⟨f, h.below hbT⟩, HS2.out.lts.upd (Upd.ofBelow [p, g] hbT)⟩⟩
    · obtain rfl : k = A.length := by omega
      have HS := Lib.hid hS
      clear hS
      go_wp2_with (go_at_call 5; refine (live33_any _).mono ?_; rintro e w1 ⟨rfl, hb1⟩)
      go_ret
      exact ⟨rfl, bthen' HS.out.below hb1⟩

theorem deadActs_of (room : Int) (v : Value) (A : List Ac) (w : World) (hv : Acs w v A) :
    Calls Try.prog 3 #[.int .i64 room, v] w fun e w' => e = .returned (.bool true) ∧ Below w.heap.size w w' := by
  by_cases h1 : 150 < A.length ∨ 1024 < room
  · exact deadActs_far w room v A hv h1
  · by_cases h2 : room < 1
    · exact deadActs_low w room v A hv (by omega) h2
    · obtain ⟨n, rfl⟩ := Int.eq_ofNat_of_zero_le (show 0 ≤ room by omega)
      exact deadActs_yes w n v A hv (by omega) (by omega) (by omega)

end Go.Proofs.Ytchkbbkcflmcmaa
