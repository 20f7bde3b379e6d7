/- An operation of a table ends. -/
import Derived.Test.YtddmajgadaooaaaOpFns2
set_option linter.unusedVariables false
namespace Go.Proofs.Ytddmajgadaooaaa
open Go.RowKit

theorem qF_own {v : Value} {k : Nat} (h : k ∈ qF v) : v.ownBlock = some k := by
  unfold qF at h
  split at h
  · simp at h; subst h; rfl
  · simp at h
theorem own_qF {B : Nat} {w : World} {v : Value} {L : List Int} (h : OwnQ B w v L) (hL : L ≠ []) {k : Nat} (hk : v.ownBlock = some k) : k ∈ qF v := by
  rcases h with ⟨h1, -⟩ | ⟨g, off, cap, rfl, -, -, h3, -⟩
  · exact absurd h1 hL
  · have : 0 < L.length := List.length_pos_iff.2 hL
    obtain ⟨c, rfl⟩ : ∃ c, cap = c + 1 := ⟨cap - 1, by omega⟩
    simp [Value.ownBlock] at hk
    subst hk
    simp [qF]
theorem wl_deleteF {κ : Type} [DecidableEq κ] {K : KeyK κ} (k0 : K.Ok) {ops : Array Oper} {rest : List Oper} {o : Oper} {a : Act} {w : World} {Q : Exit → Act → World → Prop} (hgd : o.guard = none) (m x : Operand) (t e : TypeId) (tys : Array TypeId) (htys : tys[0]? = some t) (ho : o.op = .call { callee := .builtin .delete, args := #[m, x], argTypes := tys })
    (ht : Try.prog.underlying t = some (.map K.ty e)) {b n : Nat} {f : κ → Option Value} (hm : a.eval m = .map (some b)) (h : MapF K w b f n) (k : κ) (hx : a.eval x = K.kv k)
    (hK : ∀ w', Upd [b] w w' → MapF K w' b (fun x => if x = k then none else f x) (if (f k).isSome then n - 1 else n) → wpList Try.prog ops Q rest (a.put o.dst (.tuple #[])) w') : wpList Try.prog ops Q (o :: rest) a w := by
  refine wpList_plain hgd fun K' hK' => ?_
  obtain ⟨w', hr, h1, h2⟩ := h.delete (ty := o.type) k0 htys ht k
  unfold Oper.wp
  simp only [execOp, ho, resolve, invoke, builtin, hm, hx, Sem.run_bind, Sem.run_pure, Result.andThen_ok, List.map_toArray, List.map_cons, List.map_nil, hr]
  exact hK' _ _ (hK w' h1 h2)

def endD (keep : Int) (D : List Int) (id : Int) : List Int := if keep < ((D ++ [id]).length : Int) then (D ++ [id]).drop 1 else D ++ [id]
def endM (keep : Int) (D : List Int) (id : Int) (M : Int → Option Value) : Int → Option Value := if keep < ((D ++ [id]).length : Int) then fun i => if i = firstI (D ++ [id]) then none else M i else M
def EndedP (T : Nat → Prop) (w : World) (t : Nat) (keep next : Int) (m fm : Nat) (sl : Fli → Value) (A D : List Int) (M : Int → Option Value) (fl : Fli → List Int) (id : Int) (e : Ending) (w' : World) : Prop :=
  e = .returned (.tuple #[]) ∧ UpdP T w w' ∧ ∃ lv ev, OMem (Gr T w w') w' t keep next lv ev m fm sl (but id A) (endD keep D id) (endM keep D id M) fl

set_option maxRecDepth 100000 in
set_option maxHeartbeats 4000000 in
theorem end_any (T : Nat → Prop) (w : World) (t : Nat) (keep next : Int) (lv ev : Value) (m fm : Nat) (sl : Fli → Value) (A D : List Int) (M : Int → Option Value) (fl : Fli → List Int) (h : OMem T w t keep next lv ev m fm sl A D M fl) (o : OpV) (hA : A.length ≤ 1000) (hD : D.length ≤ 1000) (hkeep : 1 ≤ keep) :
    Calls Try.prog 29 #[.pointer (some ⟨t, 0, none⟩), .agg o.cells.toArray] w (EndedP T w t keep next m fm sl A D M fl o.id) := by
  have hb1 : Below w.heap.size w (w.alloc (.cells o.cells.toArray 30)) := (Below.refl _ _).alloc (Nat.le_refl _) _
  have hn1 : (w.alloc (.cells o.cells.toArray 30)).heap[w.heap.size]? = some (.cells o.cells.toArray 30 (0, 0)) := heap_alloc_new _ _
  have hs1 : w.heap.size < (w.alloc (.cells o.cells.toArray 30)).heap.size := by simp
  obtain ⟨W1, hW1⟩ : ∃ W1, W1 = w.alloc (.cells o.cells.toArray 30) := ⟨_, rfl⟩
  rw [← hW1] at hb1 hn1 hs1
  have HM1 := Lib.hid (h.below hb1)
  have HN := Lib.hid hn1
  have HB1 := Lib.hid hb1
  have hlt0 := h.lt
  have hT0 := h.tT.1
  have hTm := h.tT.2.1
  have htm := h.tm.1
  have ho0 : ¬ T w.heap.size := fun hT => by have := hlt0 _ hT; omega
  clear h hn1
  obtain ⟨al, cl, hlv⟩ := HM1.out.live.form
  subst hlv
  go_enter Try.func29, Try.ntmps29
  go_upto_region 1 with fail
  show Code.wp _ _ _ _ (w.alloc (.cells o.cells.toArray 30))
  rw [← hW1]
  clear hW1 hb1
  have c2 := HM1.out.box.get (i := 2) rfl
  have k0 : W1.cell? ⟨w.heap.size, 0, none⟩ = some (.int .i64 o.id) := by simpa using (op_range HN.out) 0 _ rfl
  have d0 := fun (z : Later W1) => z.cell c2
  have d1 := fun (z : Later W1) => z.cell k0
  refine Mix.wp_region_mix_tail 10 [([0, 1, 2, 3, 4, 5, 6], 7)] [8, 9] (fun w' => ∃ x : Later W1, w' = x.w) (by kernel_rfl) (by kernel_rfl) (Mix.later_drew W1) ?_
  simp only [List.take_succ_cons, List.take_zero, List.drop_succ_cons, List.drop_zero]
  have hb2 : Below W1.heap.size W1 W1.drew := (Below.refl _ _).drew
  have HM2 := Lib.hid (HM1.out.below hb2)
  generalize W1.drew = W2 at hb2 HM2 ⊢
  refine Mix.stages_cons ?_
  simp only [Mix.pickL, List.getElem?_cons_zero, List.getElem?_cons_succ]
  repeat (first
    | go_big_quiet_skip
    | (go_big_quiet_want; (go_big_quiet_op; go_big_quiet_on)))
  refine wpQuiet_nil ?_
  have KW := Lib.hid (without_any W2 _ A o.id (HM2.out.live.lts intOk) (by omega))
  go_wp2_with (go_at_call 28; refine KW.out.mono ?_; rintro e W3 ⟨v3, rfl, hb3, hO3⟩)
  have hb13 := bthen' hb2 hb3
  refine Mix.onward_normal (W := W1) hb13 ?_
  have HM3 := Lib.hid (HM2.out.below hb3)
  refine Mix.stages_nil ?_
  simp only [Mix.pickL, List.getElem?_cons_zero, List.getElem?_cons_succ]
  repeat (first
    | go_big_quiet_skip
    | (go_big_quiet_want; (go_big_quiet_op; go_big_quiet_on)))
  refine wpQuiet_nil ?_
  clear d0 d1
  obtain ⟨a3, c3, hv3⟩ := hO3.form
  subst hv3
  have c23 := HM3.out.box.get (i := 2) rfl
  have f23 := HM3.out.box.free (i := 2) rfl
  go_wp2_with fail
  simp only [Mix.OnlyN]
  have hs13 := hb13.size
  have hs23 := hb3.size
  have hs12 := hb2.size
  have HM5 := Lib.hid (HM2.out.setLive (Upd.ofBelow [] hb3) (by simp) (hO3.mono (Nat.zero_le _)) (fun k hk => .inr (hO3.lt k hk).1))
  have hS5 : Upd [t] W3 (W3.setCell ⟨t, 2, none⟩ (.slice a3 (but o.id A).length c3)) := (Upd.refl _ _).setCell (by simp) _
  have HU5 := Lib.hid (show UpdP T w (W3.setCell ⟨t, 2, none⟩ (.slice a3 (but o.id A).length c3)) from (UpdP.ofB (bthen' HB1.out hb13)).trans (UpdP.of hS5 (fun k hk => by simp at hk; subst hk; exact .inl (.inl hT0))))
  have hto : w.heap.size ≠ t := fun e => ho0 (e ▸ hT0)
  have HN5 := Lib.hid (hS5.heap (by simpa using hto) (kept hb13 HN.out))
  have hs35 := hS5.size
  generalize W3.setCell ⟨t, 2, none⟩ (.slice a3 (but o.id A).length c3) = W5 at HM5 HU5 HN5 hs35 ⊢
  clear hS5 hO3 c23 f23 c2 k0 hb13 hb2 hb3 KW HM3
  obtain ⟨T5, hT5⟩ : ∃ T5, T5 = Gr T W2 W3 := ⟨_, rfl⟩
  rw [← hT5] at HM5
  have HT5 := Lib.hid (show ∀ k, T5 k → T k ∨ (w.heap.size < k ∧ k < W5.heap.size) from fun k hk => by
    rw [hT5] at hk
    rcases hk with h9 | h9
    · exact .inl h9
    · exact .inr (by omega))
  clear hT5
  have hlt5 := HM5.out.lt
  have hT50 := HM5.out.tT.1
  have hT5m := HM5.out.tT.2.1
  have ho5 : ¬ T5 w.heap.size := fun hT => by rcases HT5.out _ hT with h9 | h9; exact ho0 h9; omega
  obtain ⟨ae, ce, hev⟩ := HM5.out.ends.form
  subst hev
  have c3' := HM5.out.box.get (i := 3) rfl
  have k0 : W5.cell? ⟨w.heap.size, 0, none⟩ = some (.int .i64 o.id) := by simpa using (op_range HN5.out) 0 _ rfl
  go_upto_region 2 with fail
  have d0 := fun (z : Mix.InS (fun z => z.cell? ⟨t, 3, none⟩ = some (.slice ae D.length ce) ∧ z.cell? ⟨w.heap.size, 0, none⟩ = some (.int .i64 o.id))) => z.h.1
  have d1 := fun (z : Mix.InS (fun z => z.cell? ⟨t, 3, none⟩ = some (.slice ae D.length ce) ∧ z.cell? ⟨w.heap.size, 0, none⟩ = some (.int .i64 o.id))) => z.h.2
  have hne : Nonempty (Mix.InS (fun z => z.cell? ⟨t, 3, none⟩ = some (.slice ae D.length ce) ∧ z.cell? ⟨w.heap.size, 0, none⟩ = some (.int .i64 o.id))) := ⟨⟨W5, c3', k0⟩⟩
  refine Mix.wp_region_mix_tail 11 [([0, 1, 2, 3, 4, 5, 6], 7), ([], 8)] [9, 10] (fun w' => ∃ x : Mix.InS (fun z => z.cell? ⟨t, 3, none⟩ = some (.slice ae D.length ce) ∧ z.cell? ⟨w.heap.size, 0, none⟩ = some (.int .i64 o.id)), w' = x.w) (by kernel_rfl) (by kernel_rfl) (Mix.inS_mk ⟨c3', k0⟩) ?_
  simp only [List.take_succ_cons, List.take_zero, List.drop_succ_cons, List.drop_zero]
  have hb6 : Below W5.heap.size W5 W5.drew := (Below.refl _ _).drew
  generalize W5.drew = W6 at hb6 ⊢
  refine Mix.stages_cons ?_
  simp only [Mix.pickL, List.getElem?_cons_zero, List.getElem?_cons_succ]
  repeat (first
    | go_big_quiet_skip
    | (go_big_quiet_want; (go_big_quiet_op; go_big_quiet_on)))
  refine wpQuiet_nil ?_
  go_wp2_with (refine wl_build_rec intOk rfl _ rfl o.id rfl ?_; have hx7 := built_range (R := intR) (w := W6) o.id; have hb7 : Below W6.heap.size W6 (W6.alloc (.cells (intR.val o.id).cells intR.ty)) := (Below.refl _ _).alloc (Nat.le_refl _) _; generalize W6.alloc (.cells (intR.val o.id).cells intR.ty) = W7 at hx7 hb7 ⊢)
  have HB7 := Lib.hid (bthen' hb6 hb7)
  have HM7 := Lib.hid (HM5.out.below HB7.out)
  have hk7 : W7.cell? ⟨t, 3, none⟩ = some (.slice ae D.length ce) ∧ W7.cell? ⟨w.heap.size, 0, none⟩ = some (.int .i64 o.id) := ⟨below_cell HB7.out c3', below_cell HB7.out k0⟩
  have hx7c : W7.cell? ⟨W6.heap.size, 0, none⟩ = some (.int .i64 o.id) := by have := hx7 0 _ rfl; simpa [intR] using this
  have hs67 := hb7.size
  have hs56 := hb6.size
  clear hx7 hb7 hb6
  refine Mix.onward_in hk7 ?_
  refine Mix.stages_cons ?_
  simp only [Mix.pickL, List.getElem?_cons_zero, List.getElem?_cons_succ]
  refine wpQuiet_nil ?_
  have HQ7 := Lib.hid HM7.out.ends
  go_wp2_with (refine wl_app rfl _ _ rfl 0 _ D rfl HQ7.out W6.heap.size 1 o.id rfl hx7c (by omega) (by omega) ?_; intro v8 W8 hO8 hU8 hq8)
  replace hU8 : Upd (qF (.slice ae D.length ce)) W7 W8 := hU8
  replace hq8 : ∀ k ∈ qF v8, k ∈ qF (.slice ae D.length ce) ∨ W7.heap.size ≤ k := hq8
  have hnt : t ∉ qF (.slice ae D.length ce) := fun hin => (HM7.out.de t (qF_own hin)).2.1 rfl
  have hno : w.heap.size ∉ qF (.slice ae D.length ce) := fun hin => ho5 (HM7.out.de _ (qF_own hin)).1
  have hk8 : W8.cell? ⟨t, 3, none⟩ = some (.slice ae D.length ce) ∧ W8.cell? ⟨w.heap.size, 0, none⟩ = some (.int .i64 o.id) := ⟨hU8.cell hnt hk7.1, hU8.cell hno hk7.2⟩
  have hf8 : W8.frozen? ⟨t, 3, none⟩ = false := (hU8.frozen hnt hk7.1).trans (HM7.out.box.free (i := 3) rfl)
  refine Mix.onward_in hk8 ?_
  refine Mix.stages_nil ?_
  simp only [Mix.pickL, List.getElem?_cons_zero, List.getElem?_cons_succ]
  repeat (first
    | go_big_quiet_skip
    | (go_big_quiet_want; (go_big_quiet_op; go_big_quiet_on)))
  refine wpQuiet_nil ?_
  clear d0 d1 hne
  have c8 := hk8.1
  have HO8 := Lib.hid hO8
  obtain ⟨a8, n8, hv8⟩ := hO8.form
  have hlD : (D ++ [o.id]).length = D.length + 1 := by simp
  rw [hlD] at hv8
  subst hv8
  clear hO8
  go_wp2_with fail
  simp only [Mix.OnlyN]
  have HM9 := Lib.hid (HM7.out.setEnds hU8 (fun k hk => .inl (qF_own hk)) HO8.out (fun k hk => by
    have hin := own_qF HO8.out (by simp) hk
    rcases hq8 k hin with h9 | h9
    · exact .inl (qF_own h9)
    · exact .inr ⟨h9, (HO8.out.low k hin).2⟩))
  have hS9 : Upd [t] W8 (W8.setCell ⟨t, 3, none⟩ (.slice a8 (D.length + 1) n8)) := (Upd.refl _ _).setCell (by simp) _
  have HU9 := Lib.hid (show UpdP T w (W8.setCell ⟨t, 3, none⟩ (.slice a8 (D.length + 1) n8)) from HU5.out.trans ((UpdP.ofB HB7.out).trans (UpdP.trans (UpdP.of hU8 (fun k hk => by
    rcases HT5.out k (HM7.out.de k (qF_own hk)).1 with h9 | h9
    · exact .inl (.inl (.inl h9))
    · exact .inl (.inl (.inr (by omega))))) (UpdP.of hS9 (fun k hk => by simp at hk; subst hk; exact .inl (.inl (.inl (.inl hT0))))))))
  have hs78 := hU8.size
  have hs89 := hS9.size
  have hs57 := HB7.out.size
  have HQ9 := Lib.hid HM9.out.ends
  have hs98 : (W8.setCell ⟨t, 3, none⟩ (.slice a8 (D.length + 1) n8)).heap.size ≤ W8.heap.size := by simp [World.setCell]
  generalize W8.setCell ⟨t, 3, none⟩ (.slice a8 (D.length + 1) n8) = W9 at HM9 HU9 HQ9 hs89 hs98 ⊢
  clear hS9 hk7 hk8 hf8 hnt hno hU8 hq8 c8 c3' k0 hx7c
  have HT9 := Lib.hid (show ∀ k, Gr T5 W7 W8 k → Gr T w W9 k from fun k hk => by
    rcases hk with h9 | h9
    · rcases HT5.out k h9 with h8 | h8
      · exact .inl h8
      · exact .inr (by omega)
    · exact .inr (by omega))
  have e3 := HM9.out.box.get (i := 3) rfl
  have e0 := HM9.out.box.get (i := 0) rfl
  have e4 := HM9.out.box.get (i := 4) rfl
  go_upto_region 3 with fail
  have d3 := fun (z : Later W9) => z.cell e3
  have d0 := fun (z : Later W9) => z.cell e0
  refine wp_region_later (by kernel_rfl) (by kernel_rfl) (Below.refl _ _) ?_
  repeat (first
    | go_big_quiet_skip
    | (go_big_quiet_want; (go_big_quiet_op; go_big_quiet_on)))
  refine wpQuiet_nil ?_
  rintro ⟨W10, hb10⟩
  dsimp only
  clear d3 d0
  have HM10 := Lib.hid (HM9.out.below hb10)
  have HU10 := Lib.hid (HU9.out.trans (UpdP.ofB hb10))
  have hs10 := hb10.size
  by_cases hk : keep < ((D.length : Int) + 1)
  · obtain ⟨x0, r0, hxr⟩ : ∃ x r, D ++ [o.id] = x :: r := by
      cases hd : D ++ [o.id] with
      | nil => simp at hd
      | cons x r => exact ⟨x, r, rfl⟩
    have hrl : r0.length = D.length := by have := congrArg List.length hxr; simp at this; omega
    have hE : endD keep D o.id = r0 := by unfold endD; rw [if_pos (by rw [hlD]; push_cast; omega), hxr]; rfl
    have hEM : endM keep D o.id M = fun i => if i = x0 then none else M i := by unfold endM; rw [if_pos (by rw [hlD]; push_cast; omega), hxr]; rfl
    have HE := Lib.hid (And.intro hE hEM)
    have HXR := Lib.hid hxr
    have HQ10 := HM10.out.ends
    rw [hxr] at HQ10
    obtain ⟨b, off, e, hr⟩ := HQ10.lts.at (k := 0) (x := x0) rfl
    subst e
    have hcx : W10.cell? ⟨b, off, none⟩ = some (.int .i64 x0) := by have := int_cell hr; simpa using this
    have HQT := Lib.hid (HQ10.tail hrl)
    have hn8 : D.length + 1 ≤ n8 := by
      rcases HQ10 with ⟨h9, -⟩ | ⟨g', off', cap', e9, -, -, h9, -⟩
      · cases h9
      · simp only [Value.slice.injEq] at e9
        obtain ⟨-, -, rfl⟩ := e9
        simp at h9; omega
    clear hE hEM hxr hr HQ10 HQ9
    have e3' := HM10.out.box.get (i := 3) rfl
    have e4' := HM10.out.box.get (i := 4) rfl
    clear e3 e0 e4
    go_upto_region 4 with fail
    have d3 := fun (z : Later W10) => z.cell e3'
    have d4 := fun (z : Later W10) => z.cell e4'
    have dx := fun (z : Later W10) => z.cell hcx
    refine Mix.wp_region_mix_tail 10 [] [0, 1, 2, 3, 4, 5, 6, 7, 8, 9] (fun w' => ∃ x : Later W10, w' = x.w) (by kernel_rfl) (by kernel_rfl) (Mix.later_drew W10) ?_
    simp only [List.take_succ_cons, List.take_zero, List.drop_succ_cons, List.drop_zero]
    refine Mix.stages_nil ?_
    simp only [Mix.pickL, List.getElem?_cons_zero, List.getElem?_cons_succ]
    repeat (first
      | go_big_quiet_skip
      | (go_big_quiet_want; (go_big_quiet_op; go_big_quiet_on)))
    refine wpQuiet_nil ?_
    clear d3 d4 dx hcx e3' e4'
    have hb11 : Below W10.heap.size W10 W10.drew := (Below.refl _ _).drew
    have HM11 := Lib.hid (HM10.out.below hb11)
    have HU11 := Lib.hid (HU10.out.trans (UpdP.ofB hb11))
    have HQ11 := Lib.hid (HQT.out.below hb11)
    have hs11 := hb11.size
    generalize W10.drew = W11 at HM11 HU11 HQ11 hs11 ⊢
    obtain ⟨n11, hop⟩ := HM11.out.ops
    have HOP := Lib.hid hop
    clear hop hb11 HQT
    go_wp2_with (refine wl_deleteF (intK_ok Try.underlying3) rfl _ _ 57 30 _ rfl rfl Try.underlying57 rfl HOP.out x0 rfl ?_; intro W12 hu12 hm12)
    simp only [Mix.OnlyN]
    have HM12 := Lib.hid (HM11.out.setOps hu12 hm12)
    have HU12 := Lib.hid (HU11.out.trans (UpdP.of hu12 (fun k hk => by simp at hk; subst hk; exact .inl (.inl hTm))))
    have HQ12 := Lib.hid (HQ11.out.upd hu12 (fun k hk => by
      have hkb : k = b := by
        by_cases h9 : n8 = 1
        · rw [if_pos h9] at hk; simp [Value.ownBlock] at hk; exact hk.symm
        · rw [if_neg h9] at hk; simp [Value.ownBlock] at hk; exact hk.symm
      subst hkb
      simpa using (HM11.out.de k rfl).2.2.1))
    have hs12' := hu12.size
    have e3 := HM12.out.box.get (i := 3) rfl
    have f3 := HM12.out.box.free (i := 3) rfl
    clear hu12 hm12 HOP HQ11
    have fin : ∀ ev', (∀ k, ev'.ownBlock = some k → k = b) → OwnQ 0 W12 ev' r0 → EndedP T w t keep next m fm sl A D M fl o.id (.returned (.tuple #[])) (W12.setCell ⟨t, 3, none⟩ ev') := fun ev' hev ho => by
      have hS : Upd [t] W12 (W12.setCell ⟨t, 3, none⟩ ev') := (Upd.refl _ _).setCell (by simp) _
      have hsS := hS.size
      have hsS' : (W12.setCell ⟨t, 3, none⟩ ev').heap.size ≤ W12.heap.size := by simp [World.setCell]
      have hm := HM12.out.setEnds (Upd.refl [] W12) (by simp) ho (fun k hk => .inl (by rw [hev k hk]; rfl))
      refine ⟨rfl, HU12.out.trans (UpdP.of hS (fun k hk => by simp at hk; subst hk; exact .inl (.inl hT0))), .slice a3 (but o.id A).length c3, ev', ?_⟩
      rw [HE.out.1, HE.out.2]
      refine hm.wider (fun k hk => ?_) (fun k hk => ?_)
      · rcases hk with h9 | h9
        · exact (HT9.out k h9).elim .inl (fun h8 => .inr (by omega))
        · omega
      · rcases hk with h9 | h9
        · have := hlt0 k h9; omega
        · omega
    have FIN := Lib.hid fin
    clear fin
    by_cases h9 : n8 = 1
    · rw [if_pos h9] at HQ12
      have hD0 : D.length = 0 := by omega
      have hr0 : r0 = [] := List.eq_nil_of_length_eq_zero (by omega)
      rw [hD0, h9] at e3
      rw [hD0, h9] at HQ12
      rw [hD0, h9]
      have FIN2 := Lib.hid (FIN.out (.slice (some ⟨b, off, none⟩) 0 0) (fun k hk => by simp [Value.ownBlock] at hk; exact hk.symm) (by simpa using HQ12.out))
      clear FIN HQ12 hn8 h9 hD0 hr0 hD hk hlD hrl
      trace_state
      go_wp2_with fail
      go_end0
      exact FIN2.out
    · rw [if_neg h9] at HQ12
      go_wp2_with fail
      go_end0
      exact FIN.out _ (fun k hk => by simp [Value.ownBlock] at hk; exact hk.symm) HQ12.out
  · have hE : endD keep D o.id = D ++ [o.id] := by unfold endD; rw [if_neg (by rw [hlD]; push_cast; omega)]
    have hEM : endM keep D o.id M = M := by unfold endM; rw [if_neg (by rw [hlD]; push_cast; omega)]
    have HE := Lib.hid (And.intro hE hEM)
    clear hE hEM
    go_wp2_with fail
    go_end0
    refine ⟨rfl, HU10.out, .slice a3 (but o.id A).length c3, .slice a8 (D.length + 1) n8, ?_⟩
    rw [HE.out.1, HE.out.2]
    exact HM10.out.wider (fun k hk => (HT9.out k hk).elim .inl (fun h9 => .inr (by omega))) (fun k hk => by
      rcases hk with h9 | h9
      · have := hlt0 k h9; omega
      · omega)
end Go.Proofs.Ytddmajgadaooaaa
