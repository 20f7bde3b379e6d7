/- The rows of a history's table. -/
import Derived.Test.YteifjlhkfmoljaaHBack
import Derived.Test.YteifjlhkfmoljaaHLaw2
set_option linter.unusedVariables false
namespace Go.Proofs.Yteifjlhkfmoljaa
open Go.RowKit Go.Shelf
attribute [local go_sem] Oper.semAt_some

theorem rows_nil (w : World) : Calls Try.prog 28 #[.pointer none] w fun e w' => e = .returned (.slice none 0 0) ∧ Below w.heap.size w w' := by
  go_enter Try.func28, Try.ntmps28
  go_wp2_with (go_at_call 16; refine (ok_nil _).mono ?_; rintro e w' ⟨rfl, rfl⟩)
  go_ret
  exact ⟨rfl, (Below.refl _ _).alloc (Nat.le_refl _) _⟩

/-- What comes of a place. -/
def rowOf (L : List ByteArray) (R : List Rw) (x : Nat) : Rw := (L.reverse[x]?.getD ⟨#[]⟩, look (L.reverse[x]?.getD ⟨#[]⟩) R)
theorem rowsOf (E : List (Ent Hs)) (hn : ((rws E).map Prod.fst).Nodup) : (List.range E.length).map (rowOf (E.map Ent.key) (rws E)) = (rws E).reverse := by
  have hk : E.map Ent.key = (rws E).map Prod.fst := by unfold rws; rw [List.map_map]; rfl
  apply List.ext_getElem?
  intro i
  by_cases hi : i < E.length
  · obtain ⟨p, hp⟩ : ∃ p, (rws E).reverse[i]? = some p := ⟨_, List.getElem?_eq_getElem (by simpa [rws] using hi)⟩
    have hkey : (E.map Ent.key).reverse[i]? = some p.1 := by rw [hk, ← List.map_reverse, List.getElem?_map, hp]; rfl
    have hl : look p.1 (rws E) = p.2 := by
      have hlt : i < (rws E).length := by simpa [rws] using hi
      rw [List.getElem?_reverse hlt] at hp
      exact look_at hn hp
    rw [hp, List.getElem?_map, List.getElem?_range hi]
    simp only [Option.map_some, rowOf, hkey, Option.getD_some, hl]
  · rw [List.getElem?_eq_none (by simpa using hi), List.getElem?_eq_none (by simpa [rws] using hi)]

def GivesR (w : World) (E : List (Ent Hs)) (e : Ending) (w' : World) : Prop := ∃ v, e = .returned v ∧ Below w.heap.size w w' ∧ Owns rowR w.heap.size w' v (rws E).reverse

set_option maxRecDepth 100000 in
set_option maxHeartbeats 2000000 in
theorem rows_any (w : World) (B h t : Nat) (room : Int) (c m : Nat) (E : List (Ent Hs)) (H : HTab B w h t room c m E) (hbig : E.length < 100000) :
    Calls Try.prog 28 #[.pointer (some ⟨h, 0, none⟩)] w (GivesR w E) := by
  have HH := Lib.hid H
  have hN := Lib.hid (rowsOf E (by unfold rws; rw [List.map_map]; exact H.tab.keys))
  obtain ⟨o1, ho1⟩ : ∃ o1, o1 = w.heap.size := ⟨_, rfl⟩
  obtain ⟨W1, hW1⟩ : ∃ W1, W1 = (w.alloc (.cells #[.pointer (some ⟨h, 0, none⟩)] 27)).alloc (.cells #[.slice none 0 0] 37) := ⟨_, rfl⟩
  obtain ⟨b1, b2, hb1, hs1⟩ := two_boxes (Below.refl _ ((w.alloc (.cells #[.pointer (some ⟨h, 0, none⟩)] 27)).alloc (.cells #[.slice none 0 0] 37)))
  rw [← hW1] at b1 b2 hb1 hs1
  have HH1 := Lib.hid (H.below hb1)
  have KO := fun (W : World) (hb : Below w.heap.size w W) => ok_any W h t (H.below hb).box
  have KK := Lib.hid (keys_any W1 B t room c m E HH1.out.tab hbig)
  have hlenE : (E.map Ent.key).length = E.length := by simp
  obtain ⟨L, hL⟩ : ∃ L, L = E.map Ent.key := ⟨_, rfl⟩
  rw [← hL] at hN KK hlenE
  clear H hL
  refine calls_marks 3 Try.func28 rfl ?_
  simp only [Try.ntmps28, List.size_toArray, List.length_cons, List.length_nil, Nat.reduceAdd, Nat.reduceSub, Array.replicate_succ, Array.replicate_zero, List.push_toArray, List.append_toArray, List.nil_append, List.cons_append]
  go_upto_region 4 with (go_at_call 16; refine (KO _ ((Below.refl _ _).alloc (Nat.le_refl _) _)).mono ?_; rintro e w' ⟨rfl, rfl⟩)
  have hg := HH1.out.ptr0
  show Code.wp _ _ _ _ ((w.alloc (.cells #[.pointer (some ⟨h, 0, none⟩)] 27)).alloc (.cells #[.slice none 0 0] 37))
  rw [← hW1]
  clear hW1
  rw [← ho1] at b1 b2 hb1 hs1 ⊢
  have HO1 := Lib.hid ho1
  clear ho1 KO
  have c1 := cell_of_one b1
  go_wp2_with (first
    | (go_at_call 46; refine KK.out.mono ?_; rintro e W2 ⟨sv, rfl, hb2, hO2⟩; obtain ⟨a2, cap2, rfl⟩ := hO2.form)
    | (go_at_call 45; refine (back_any _ _ _ _).mono ?_; rintro e W3 ⟨rfl, rfl⟩))
  rw [hlenE] at hO2
  have hs2 := hb2.size
  obtain ⟨W3, hW3⟩ : ∃ W3, W3 = W2.alloc (.cells #[.slice a2 E.length cap2] 92) := ⟨_, rfl⟩
  have hb3 : Below W2.heap.size W2 (W2.alloc (.cells #[.slice a2 E.length cap2] 92)) := (Below.refl _ _).alloc (Nat.le_refl _) _
  have hP3 : BackP L (.slice a2 E.length cap2) W1.heap.size W2.heap.size (W2.alloc (.cells #[.slice a2 E.length cap2] 92)) := ⟨heap_alloc_new _ _, hO2.below hb3⟩
  have hs3 : (W2.alloc (.cells #[.slice a2 E.length cap2] 92)).heap.size = W2.heap.size + 1 := by simp
  rw [← hW3] at hb3 hP3 hs3 ⊢
  have b13 := kept (bthen' hb2 hb3) b1
  have b23 := kept (bthen' hb2 hb3) b2
  have ho1 : o1 ≤ w.heap.size := by rw [HO1.out]; omega
  have ho2 : w.heap.size ≤ o1 := by rw [HO1.out]; omega
  have hB3 : Below o1 w W3 := hb1.trans ((bthen' hb2 hb3).mono (by omega))
  have hsv := hO2.lt
  clear hW3 c1 hg
  refine wpIn_wide.1 (wpIn_rangeFunc_ownF rfl (by omega : 1 ≤ 3) (gf := 51) (lb := #[.pointer (some ⟨W2.heap.size, 0, none⟩)]) rfl trivial (enters_of Try.func51 (by kernel_rfl) rfl)
    (back_stops L (.slice a2 E.length cap2) W1.heap.size 2 W2.heap.size W3 hP3 (by omega)) (fun h1 h2 hx => h2 (h1 hx)) (fun W l o o' hl ho hc hw hP => hP.keptRow (grownBy_putObj' W l o') (fun r e => by cases e; exact ⟨o, ho, hc⟩)) (Below.refl _ _) (fun _ => rfl)
    (fun pre W => ((∃ v, W.heap[o1 + 1]? = some (.cells #[v] 37 (0, 0)) ∧ Owns rowR W3.heap.size W v (pre.map (rowOf L (rws E)))) ∧ W.heap[o1]? = some (.cells #[.pointer (some ⟨h, 0, none⟩)] 27 (0, 0)) ∧ W3.heap.size ≤ W.heap.size) ∧ Below o1 w W)
    (fun _ _ _ => False)
    (OwnFrom.and (Own.from (fun s A B row hs hg hr => ⟨by obtain ⟨v, hv, ho⟩ := hs.1; exact ⟨v, heap_keptRow hv hg hr, ho.keptRow hg hr⟩, heap_keptRow hs.2.1 hg hr, Nat.le_trans hs.2.2 hg.size⟩) _) (ownFrom_below (by omega) (by omega)))
    (fun _ _ _ _ _ hs _ _ => hs)
    ⟨⟨⟨_, b23, Owns.nil rowR _ _⟩, b13, Nat.le_refl _⟩, hB3⟩
    (fun x => { tmps := #[.pointer (some ⟨h, 0, none⟩), .pointer (some ⟨o1, 0, none⟩), .slice none 0 0, .pointer (some ⟨o1 + 1, 0, none⟩), undef, .string (L.reverse[x]?.getD ⟨#[]⟩), .pointer (some ⟨h, 0, none⟩), .bool true, .bool false, .pointer (some ⟨h, 0, none⟩), .pointer (some ⟨h, 0, none⟩), .pointer (some ⟨h, 0, none⟩), .pointer (some ⟨t, 0, none⟩), .slice a2 E.length cap2, .func (.func 51) #[] #[.pointer (some ⟨W2.heap.size, 0, none⟩)], .int .i64 ((E.length : Int) - 1 - x), .string (L.reverse[x]?.getD ⟨#[]⟩), undef, undef, undef, undef, undef, undef, undef, undef, undef], defers := [] }) ?assign ?body ?done ?stop)
  case assign =>
    intro l x W K hK
    dsimp only [encB]
    gi_wp2
    exact hK
  case body =>
    rintro l pre x W ⟨⟨⟨v, hv, hO⟩, hbx, hWs⟩, hB⟩ hlt
    rw [hlenE] at hlt
    have T := Lib.hid (show (pre ++ [x]).map (rowOf L (rws E)) = pre.map (rowOf L (rws E)) ++ [rowOf L (rws E) x] from by simp)
    have hRO : rowOf L (rws E) x = (L.reverse[x]?.getD ⟨#[]⟩, look (L.reverse[x]?.getD ⟨#[]⟩) (rws E)) := rfl
    generalize L.reverse[x]?.getD ⟨#[]⟩ = ky at hRO ⊢
    have KH := Lib.hid (fun (W' : World) (hb : Below W.heap.size W W') => hist_any W' B h t room c m E (HH.out.below (by rw [← HO1.out]; exact hB.trans (hb.mono (by rw [HO1.out]; exact hB.size)))) ky)
    generalize look ky (rws E) = z at KH hRO
    obtain ⟨al, cl, rfl⟩ := hO.form
    have hmapl : (pre.map (rowOf L (rws E))).length = pre.length := by simp
    rw [hmapl] at hv hO
    have c0 := cell_of_one hbx
    have c1 := cell_of_one hv
    have HO := Lib.hid hO
    have HV := Lib.hid hv
    have HX := Lib.hid hbx
    have d0 := fun (z : Later W) => z.cell c0
    have d1 := fun (z : Later W) => z.cell c1
    have hlW := Lib.hid hO.lt
    have hl1 := lt_of_block hv
    rw [hRO] at T
    clear c0 c1 hv hO hbx hRO
    gi_wp2
    refine Mix.wpIn_region_mix_tail 7 [([0, 1, 2, 3], 4), ([5], 6)] [] (fun w' => ∃ x : Later W, w' = x.w) (by kernel_rfl) (by kernel_rfl) (by kernel_rfl) (Mix.later_drew W) ?_
    simp only [List.take_succ_cons, List.take_zero, List.drop_succ_cons, List.drop_zero]
    refine Mix.stages_cons ?_
    simp only [Mix.pickL, List.getElem?_cons_zero, List.getElem?_cons_succ]
    repeat (first
      | go_big_quiet_skip
      | (go_big_quiet_want; (go_big_quiet_op; go_big_quiet_on)))
    refine wpQuiet_nil ?_
    have hb5 : Below W.heap.size W W.drew := (Below.refl _ _).drew
    generalize W.drew = W5 at hb5 ⊢
    go_wp2_with (go_at_call 19; refine (KH.out W5 hb5).mono ?_; rintro e W6 ⟨rfl, hb6⟩)
    refine Mix.onward_normal (W := W) (bthen' hb5 hb6) ?_
    have hs5 := hb5.size
    have hs6 := hb6.size
    have hO6 := HO.out.below (bthen' hb5 hb6)
    refine Mix.stages_cons ?_
    simp only [Mix.pickL, List.getElem?_cons_zero, List.getElem?_cons_succ]
    repeat (first
      | go_big_quiet_skip
      | (go_big_quiet_want; first
        | (refine quiet_build 61 _ rfl [(0, .string ky), (1, hV z)] (by kernel_rfl) (rowC (ky, z)).toArray (row_built ky z) ?_; simp only [Act.put, List.setIfInBounds_toArray, List.set_cons_succ, List.set_cons_zero]; go_big_quiet_on)
        | (go_big_quiet_op; go_big_quiet_on)))
    refine wpQuiet_nil ?_
    go_wp2_with (first
      | (refine wl_build_rec rowOk rfl _ rfl (ky, z) rfl ?_; have hx7 := built_range (R := rowR) (w := W6) (ky, z); have hb7 : Below W6.heap.size W6 (W6.alloc (.cells (rowR.val (ky, z)).cells rowR.ty)) := (Below.refl _ _).alloc (Nat.le_refl _) _; generalize W6.alloc (.cells (rowR.val (ky, z)).cells rowR.ty) = W7 at hx7 hb7 ⊢; have hO7 := hO6.below hb7; have hszT := hb7.size))
    refine Mix.onward_normal hb7 ?_
    refine Mix.stages_nil ?_
    simp only [Mix.pickL]
    refine wpQuiet_nil ?_
    clear d0 d1
    go_wp2_with (first
      | (refine wl_append_rec rowOk rfl _ _ rfl W3.heap.size _ (pre.map (rowOf L (rws E))) rfl hO7 W6.heap.size 0 1 (ky, z) rfl hx7 (by omega) (by omega) ?_; rw [hmapl]; intro g cap W8 hO8 hg8 hat8; have hv7 := kept (bthen' (bthen' hb5 hb6) hb7) HV.out; have hv8 : W8.heap[o1 + 1]? = _ := (hg8.block (o1 + 1) (lt_of_block hv7) (fun e => by have := (hlW.out _ e.symm).1; omega)).trans hv7; have c8 := cell_of_one hv8; have f8 := free_of_one hv8))
    have hn1 := hlW.out
    have hrow : ∀ (j : Nat) (o : Obj), (Value.slice al pre.length cl).ownBlock = some j → W7.heap[j]? = some o → o.isCells = true := by
      intro j o hj ho
      rcases hO7.2 with ⟨h0, -⟩ | ⟨g', cap', cur, e1, _, hg', _⟩
      · rw [h0] at hj; cases hj
      · rw [e1] at hj
        simp [Value.ownBlock] at hj
        subst hj
        rw [hg'] at ho
        cases ho
        rfl
    have hb57 := bthen' (bthen' hb5 hb6) hb7
    have hU : Upd [o1 + 1] W8 (W8.setCell ⟨o1 + 1, 0, none⟩ (.slice (some ⟨g, 0, none⟩) (pre.length + 1) cap)) := (Upd.refl _ _).setCell (by simp) _
    have hO8' : Owns rowR W3.heap.size W8 (.slice (some ⟨g, 0, none⟩) (pre.length + 1) cap) (pre.map (rowOf L (rws E)) ++ [(ky, z)]) := hO8
    have h8s := hg8.size
    refine ⟨((⟨hb57.size, fun k o hk _ => (hb57.block k (lt_of_block hk)).trans hk⟩ : KeepsOthers W W7).trans (KeepsOthers.of_grownBy hg8 hrow)).trans (KeepsOthers.setCell _ _ _), ?_, ?_⟩
    · intro hP
      have h7 := hP.below hb57
      exact ⟨hU.heap (by simp; omega) ((hg8.block _ (lt_of_block h7.1) (fun e => by have := (hn1 _ e.symm).1; omega)).trans h7.1), ((h7.2.grown hg8 (fun k hk e => by have h1 := (hn1 _ e).1; have h2 := (hsv _ hk).2; omega)).upd hU (fun k hk => by have := (hsv _ hk).1; simp; omega))⟩
    · refine ⟨⟨⟨_, one_setCell hv8, ?_⟩, ?_, ?_⟩, ?_⟩
      · rw [T.out]
        exact hO8'.upd hU (fun k hk => by have := (hO8'.lt _ hk).1; simp; omega)
      · have h7 := kept hb57 HX.out
        exact hU.heap (by simp) ((hg8.block _ (lt_of_block h7) (fun e => by have := (hn1 _ e.symm).1; omega)).trans h7)
      · have := hU.size
        omega
      · exact ((hB.trans (hb57.mono (by omega))).grown hg8 (by omega) (fun k hk => by have := (hn1 _ hk).1; omega)).setCell (p := ⟨o1 + 1, 0, none⟩) (by simp) _
  case done =>
    rintro D xs W hD rfl ⟨⟨⟨v, hv, hO⟩, hbx, hWs⟩, hB⟩ hK
    rw [hlenE, hN.out] at hO
    obtain ⟨al, cl, rfl⟩ := hO.form
    rw [show (rws E).reverse.length = (rws E).length from List.length_reverse] at hv hO
    have c0 := cell_of_one hv
    have HO := Lib.hid hO
    have HB := Lib.hid hB
    clear hO hB hv hbx b13 b23 b1 b2
    go_wp2
    refine ⟨by simp, .inl ⟨_, _, rfl, run_takeDeferred hK, ?_⟩⟩
    refine ⟨_, results_tmp rfl _ _ _, _, rfl, ?_, ?_⟩
    · rw [← HO1.out]
      exact HB.out.trans (belowK_b (w := W3) (by omega) W D _ _ (by omega) hK rfl rfl)
    · have h9 : Owns rowR W3.heap.size _ _ _ := HO.out.keptRow (grownBy_putObj' _ D (.deferred none)) (fun r e => by cases e; exact ⟨_, hK, rfl⟩)
      exact Owns.mono (B := W3.heap.size) (B' := w.heap.size) h9 (by omega)
  case stop =>
    rintro D c pre W hD _ hF hK
    exact hF.elim
end Go.Proofs.Yteifjlhkfmoljaa
