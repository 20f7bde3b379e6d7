/- Get, Put, Keys. -/
import Derived.Test.YtnfcpknepnifgaaLru
set_option linter.unusedVariables false
namespace Go.Proofs.Ytnfcpknepnifgaa
open Go.RowKit

theorem quiet_lookup {κ : Type} [DecidableEq κ] {K : KeyK κ} (k0 : K.Ok) {o : Oper} {a : Act} {C : World → Prop} {N : Act → Prop} (m x : Operand) (t e : TypeId) (ho : o.op = .lookup t m x false)
    (ht : Try.prog.underlying t = some (.map K.ty e)) {z : Value} (hz : ∀ w, (zeroValue e).run Try.prog w = .ok z w) {b n : Nat} {f : κ → Option Value} (hm : a.eval m = .map (some b)) (h : ∀ w, C w → MapF K w b f n) (k : κ) (hx : a.eval x = K.kv k)
    (hK : N (a.put o.dst ((f k).getD z))) : o.quiet Try.prog a C N :=
  ⟨_, fun w hw => by
    unfold Oper.quietAt execOp
    simp only [ho, hm, hx, Sem.run_bind, (h w hw).lookup k0 ht (hz w) k, Result.andThen_ok]
    exact ⟨rfl, rfl⟩, hK⟩

theorem lks_erase {α : Type} (ty : TypeId) (E : List (Ent α)) (i : Nat) : lks ty (E.eraseIdx i) = (lks ty E).eraseIdx i := by
  unfold lks
  rw [List.eraseIdx_eq_take_drop_succ, List.eraseIdx_eq_take_drop_succ, List.map_append, List.map_take, List.map_drop]

/-! ### Get -/
theorem get_nil (w : World) (k : ByteArray) : Calls Try.prog 15 #[.pointer none, .string k] w fun e w' => e = .returned (.tuple #[.int .i64 0, .bool false]) ∧ w = w' := by
  go_enter Try.func15, Try.ntmps15
  go_wp2_with (go_at_call 10; refine (peek_nil _ _).mono ?_; rintro e w' ⟨rfl, rfl⟩)
  go_ret2
  exact ⟨rfl, rfl⟩
theorem get_no (w : World) (B t : Nat) (room : Int) (c m : Nat) (E : List (Ent Int)) (h : TabI B w t room c m E) (k : ByteArray) (hk : ∀ x ∈ E, x.key ≠ k) :
    Calls Try.prog 15 #[.pointer (some ⟨t, 0, none⟩), .string k] w fun e w' => e = .returned (.tuple #[.int .i64 0, .bool false]) ∧ w = w' := by
  have KP := Lib.hid (peek_no w B t room c m E h k hk)
  clear h hk
  go_enter Try.func15, Try.ntmps15
  go_wp2_with (go_at_call 10; refine KP.out.mono ?_; rintro e w' ⟨rfl, rfl⟩)
  go_ret2
  exact ⟨rfl, rfl⟩
theorem get_yes (w : World) (B t : Nat) (room : Int) (c m : Nat) (E : List (Ent Int)) (h : TabI B w t room c m E) (i : Nat) (x : Ent Int) (hx : E[i]? = some x) :
    Calls Try.prog 15 #[.pointer (some ⟨t, 0, none⟩), .string x.key] w fun e w' => e = .returned (.tuple #[.int .i64 x.v, .bool true]) ∧ Upd (tF TE t c m E) w w' ∧ TabI B w' t room c m (x :: E.eraseIdx i) := by
  have KP := Lib.hid (peek_yes w B t room c m E h i x hx)
  have HT := Lib.hid h
  have HX := Lib.hid hx
  have d1 := fun (z : Later w) => z.cell (h.box.get (i := 1) rfl)
  have d2 := fun (z : Later w) => z.cell (h.box.get (i := 2) rfl)
  have hf := Lib.hid (mf_mem h.keys (List.mem_of_getElem? hx))
  have HM := Lib.hid (fun (w' : World) (hx : ∃ z : Later w, w' = z.w) => show MapF (strK 9) w' m (mf E) E.length from by obtain ⟨z, rfl⟩ := hx; exact h.map.below z.h)
  clear h hx
  go_enter Try.func15, Try.ntmps15
  go_upto_region 3 with (go_at_call 10; refine KP.out.mono ?_; rintro e w' ⟨rfl, rfl⟩)
  refine wp_region_later_tail 10 (by kernel_rfl) (by kernel_rfl) (Below.refl _ _) ?_
  simp only [List.take_succ_cons, List.take_zero, List.drop_succ_cons, List.drop_zero]
  repeat (first
    | go_big_quiet_skip
    | (go_big_quiet_want; first
      | (refine quiet_lookup strKey _ _ _ _ rfl keyAt zeroLink rfl HM.out x.key rfl ?_; rw [hf.out]; simp only [Option.getD_some, Act.put, List.setIfInBounds_toArray, List.set_cons_succ, List.set_cons_zero]; go_big_quiet_on)
      | (go_big_quiet_op; go_big_quiet_on)))
  refine wpQuiet_nil ?_
  rintro ⟨W2, hb2⟩
  dsimp only
  have HT2 := Lib.hid (HT.out.below hb2)
  clear d1 d2
  go_wp2_with (go_at_call 18; refine (chainFront_any W2 c (lks TE E) HT2.out.ch i x.g _ (HT2.out.at_lk HX.out)).mono ?_; rintro e W3 ⟨rfl, hu3, hq3⟩)
  go_ret2
  refine ⟨rfl, (Upd.ofBelow _ hb2).trans (hu3.mono (fun b hb => HT2.out.inC hb)), HT2.out.chain hu3 (perm_erase HX.out) ?_⟩
  rw [← lks_erase] at hq3
  exact hq3

/-! ### Put -/
theorem put_nil (w : World) (k : ByteArray) (v : Int) : Calls Try.prog 8 #[.pointer none, .string k, .int .i64 v] w fun e w' => e = .returned (.tuple #[.string ⟨#[]⟩, .bool false]) ∧ w = w' := by
  go_enter Try.func8, Try.ntmps8
  go_wp2_with fail
  go_ret2
  exact ⟨rfl, rfl⟩
theorem put_old (w : World) (B t : Nat) (room : Int) (c m : Nat) (E : List (Ent Int)) (h : TabI B w t room c m E) (i : Nat) (x : Ent Int) (hx : E[i]? = some x) (v : Int) :
    Calls Try.prog 8 #[.pointer (some ⟨t, 0, none⟩), .string x.key, .int .i64 v] w fun e w' => e = .returned (.tuple #[.string ⟨#[]⟩, .bool false]) ∧ Upd (tF TE t c m E) w w' ∧ TabI B w' t room c m ({ x with v := v } :: E.eraseIdx i) := by
  have hxm := List.mem_of_getElem? hx
  have c2 := h.box.get (i := 2) rfl
  have n1 := (h.ents x hxm).get (i := 1) rfl
  have n1f := (h.ents x hxm).free (i := 1) rfl
  have KO := Lib.hid (of_any w x.g x.e _ _ (h.node hx))
  have hf := Lib.hid (mf_mem h.keys hxm)
  have HT := Lib.hid h
  have HX := Lib.hid hx
  have hxe := h.inE hxm
  have HS := Lib.hid (h.store hx v (show Upd [x.e] w (w.setCell ⟨x.e, 1, none⟩ (.int .i64 v)) from (Upd.refl _ _).setCell (by simp) _) ((h.ents x hxm).set 1 (.int .i64 v)))
  have HU := Lib.hid (show Upd [x.e] w (w.setCell ⟨x.e, 1, none⟩ (.int .i64 v)) from (Upd.refl _ _).setCell (by simp) _)
  clear h hx hxm
  go_enter Try.func8, Try.ntmps8
  go_upto_region 6 with (first
    | (go_at_call 17; refine KO.out.mono ?_; rintro e w' ⟨rfl, rfl⟩)
    | (refine wl_lookupOk strKey rfl _ _ _ _ rfl keyAt zeroLink rfl HT.out.map x.key rfl ?_; rw [hf.out]; simp only [Option.getD_some, Option.isSome_some]))
  generalize w.setCell ⟨x.e, 1, none⟩ (.int .i64 v) = W2 at HS HU ⊢
  have hxi : (E.set i { x with v := v })[i]? = some { x with v := v } := by
    rw [List.getElem?_set_self (List.getElem?_eq_some_iff.1 HX.out).1]
  have KF := Lib.hid (chainFront_any W2 c _ HS.out.ch i x.g _ (HS.out.at_lk (x := { x with v := v }) hxi))
  have c12 := HS.out.box.get (i := 1) rfl
  have HXI := Lib.hid hxi
  clear c2 n1 n1f hxi
  go_wp2_with (go_at_call 18; refine KF.out.mono ?_; rintro e W3 ⟨rfl, hu3, hq3⟩)
  go_ret2
  have hT := HS.out.chain hu3 (perm_erase HXI.out) (by rw [← lks_erase] at hq3; exact hq3)
  rw [show (E.set i { x with v := v }).eraseIdx i = E.eraseIdx i from by
    refine List.ext_getElem? (fun j => ?_)
    rw [List.getElem?_eraseIdx, List.getElem?_eraseIdx, List.getElem?_set, List.getElem?_set]
    split
    · rw [if_neg (by omega)]
    · rw [if_neg (by omega)]] at hT
  refine ⟨rfl, (HU.out.mono (by simpa using hxe)).trans (hu3.mono (fun b hb => ?_)), hT⟩
  have := HS.out.inC hb
  have e : tF TE t c m (E.set i { x with v := v }) = tF TE t c m E := by
    unfold tF lks
    have hl := (List.getElem?_eq_some_iff.1 HX.out).1
    have g : ∀ {β : Type} (f : Ent Int → β), f { x with v := v } = f x → (E.set i { x with v := v }).map f = E.map f := by
      intro β f hfx
      rw [List.map_set]
      refine List.ext_getElem? (fun j => ?_)
      rw [List.getElem?_set]
      split
      · rename_i hki
        subst hki
        rw [List.getElem?_map, HX.out]
        simp [hl, hfx]
      · rfl
    rw [g (Ent.lk TE) rfl, g Ent.e rfl]
  rwa [e] at this

/-- The key that a table gives up for one more, and what is left. -/
def PutGives (w : World) (B t : Nat) (room : Int) (c m : Nat) (E : List (Ent Int)) (k : ByteArray) (v : Int) (e : Ending) (w' : World) : Prop :=
  ∃ x : Ent Int, x.key = k ∧ x.v = v ∧ Upd (tF TE t c m E) w w' ∧
    (((E.length : Int) + 1 ≤ room ∧ e = .returned (.tuple #[.string ⟨#[]⟩, .bool false]) ∧ TabI B w' t room c m (x :: E)) ∨
      (room < (E.length : Int) + 1 ∧ ∃ y, (x :: E)[E.length]? = some y ∧ e = .returned (.tuple #[.string y.key, .bool true]) ∧ TabI B w' t room c m ((x :: E).eraseIdx E.length)))

set_option maxRecDepth 100000 in
set_option maxHeartbeats 4000000 in
theorem put_new (w : World) (B t : Nat) (room : Int) (c m : Nat) (E : List (Ent Int)) (h : TabI B w t room c m E) (hB : B ≤ w.heap.size) (k : ByteArray) (hk : ∀ x ∈ E, x.key ≠ k) (v : Int) (hbig : E.length ≤ 1000000) :
    Calls Try.prog 8 #[.pointer (some ⟨t, 0, none⟩), .string k, .int .i64 v] w (PutGives w B t room c m E k v) := by
  have c2 := h.box.get (i := 2) rfl
  have hf := Lib.hid (mf_none hk)
  have HT := Lib.hid h
  have HK := Lib.hid hk
  have HI := Lib.hid (show (if (mf E k).isSome = true then E.length else E.length + 1) = E.length + 1 from by rw [hf.out]; rfl)
  obtain ⟨p1, p2, -, p4, -⟩ := h.parts
  have hlow := Lib.hid h.low
  have P2 := Lib.hid p2
  have P4 := Lib.hid p4
  have P1 := Lib.hid p1
  clear h hk p1 p2 p4
  go_enter Try.func8, Try.ntmps8
  go_upto_region 8 with (refine wl_lookupOk strKey rfl _ _ _ _ rfl keyAt zeroLink rfl HT.out.map k rfl ?_; rw [hf.out]; simp only [Option.getD_none, Option.isSome_none])
  have hS := HT.out.box
  have hne : Nonempty (Mix.InS (fun x => Cel x t [.int .i64 room, .pointer (some ⟨c, 0, none⟩), .map (some m)])) := ⟨⟨w, hS⟩⟩
  have d1 := fun (z : Mix.InS (fun x => Cel x t [.int .i64 room, .pointer (some ⟨c, 0, none⟩), .map (some m)])) => z.h.get (i := 1) rfl
  have d2 := fun (z : Mix.InS (fun x => Cel x t [.int .i64 room, .pointer (some ⟨c, 0, none⟩), .map (some m)])) => z.h.get (i := 2) rfl
  refine Mix.wp_region_mix [([0, 1, 2, 3, 4, 5, 6, 7, 8, 9, 10, 11], 12), ([], 13), ([], 14), ([], 15)] [] (fun w' => ∃ x : Mix.InS (fun x => Cel x t [.int .i64 room, .pointer (some ⟨c, 0, none⟩), .map (some m)]), w' = x.w) (by kernel_rfl) (by kernel_rfl) (Mix.inS_mk (hS.below (Below.refl _ _).drew)) ?_
  have hbd : Below w.heap.size w w.drew := (Below.refl _ _).drew
  generalize w.drew = W0 at hbd ⊢
  refine Mix.stages_cons ?_
  simp only [Mix.pickL, List.getElem?_cons_zero, List.getElem?_cons_succ]
  repeat (first
    | go_big_quiet_skip
    | (go_big_quiet_want; (go_big_quiet_op; go_big_quiet_on)))
  refine wpQuiet_nil ?_
  go_wp2_with fail
  have hb1 : Below w.heap.size w (W0.alloc (.cells #[.string k, .int .i64 v] 54)) := bthen' hbd ((Below.refl _ _).alloc (Nat.le_refl _) _)
  have hce : Cel (W0.alloc (.cells #[.string k, .int .i64 v] 54)) W0.heap.size [.string k, .int .i64 v] := Cel.new W0 54 [.string k, .int .i64 v]
  have hsz : (W0.alloc (.cells #[.string k, .int .i64 v] 54)).heap.size = W0.heap.size + 1 := by simp
  obtain ⟨e0, he0⟩ : ∃ e0, e0 = W0.heap.size := ⟨_, rfl⟩
  rw [← he0] at hce hsz ⊢
  have hwe : w.heap.size ≤ e0 := by have := hbd.size; omega
  generalize W0.alloc (.cells #[.string k, .int .i64 v] 54) = W1 at hb1 hce hsz ⊢
  have he1 : e0 < W1.heap.size := by omega
  clear hsz he0
  refine Mix.onward_in (hS.below hb1) ?_
  refine Mix.stages_cons ?_
  simp only [Mix.pickL, List.getElem?_cons_zero, List.getElem?_cons_succ]
  refine wpQuiet_nil ?_
  have hfc := fun (w : World) (v : Option Addr) => faced w v
  go_wp2_with fail
  refine Mix.onward_in (hS.below hb1) ?_
  refine Mix.stages_cons ?_
  simp only [Mix.pickL, List.getElem?_cons_zero, List.getElem?_cons_succ]
  refine wpQuiet_nil ?_
  have hq1 := HT.out.ch.below hb1
  go_wp2_with (go_at_call 19; refine (chainPut_any W1 c (lks TE E) hq1 (fun i hi => by have := (hlow.out i (HT.out.inC hi)).2; have := hb1.size; omega) TE (.pointer (some ⟨e0, 0, none⟩))).mono ?_; rintro e W2 ⟨g, rfl, hg1, hg2, hu2, hq2⟩)
  have hS2 := (hS.below hb1).upd hu2 P2.out
  refine Mix.onward_in hS2 ?_
  refine Mix.stages_cons ?_
  simp only [Mix.pickL, List.getElem?_cons_zero, List.getElem?_cons_succ]
  refine wpQuiet_nil ?_
  have HM2 := Lib.hid ((HT.out.map.below hb1).upd hu2 P4.out)
  go_wp2_with (refine wl_update strKey rfl _ _ _ _ _ rfl keyAt rfl HM2.out k rfl (.pointer (some ⟨g, 0, none⟩)) rfl ?_; intro W3 hu3 hm3; rw [HI.out] at hm3; simp only [Act.put])
  have hT3 := HT.out.push ⟨g, e0, k, v⟩ HK.out hb1 hwe he1 hce hu2 hg1 hg2 hq2 hu3 hm3 hB
  have hU3 : Upd (tF TE t c m E) w W3 := ((Upd.ofBelow _ hb1).trans (hu2.mono (fun b hb => HT.out.inC hb))).trans (hu3.mono (by simp [tF]))
  refine Mix.onward_in (hS2.upd hu3 (by simpa using P1.out)) ?_
  refine Mix.stages_nil ?_
  simp only [Mix.pickL]
  refine wpQuiet_nil ?_
  have HT3 := Lib.hid hT3
  have HU3 := Lib.hid hU3
  clear hT3 hU3 d1 d2 hne hS2 HM2 hfc hq1 hu2 hq2 hu3 hm3 hce hb1 hbd c2 hS
  obtain ⟨es, clock, hh, hsz⟩ := HT3.out.map.size
  have hl := fun (z : Later W3) ty => run_len_map (P := Try.prog) z.w 49 ty m es clock (by kernel_rfl) (z.block hh)
  have hszE : es.size = E.length + 1 := hsz
  have d0 := fun (z : Later W3) => z.cell (HT3.out.box.get (i := 0) rfl)
  have d2 := fun (z : Later W3) => z.cell (HT3.out.box.get (i := 2) rfl)
  rw [hszE] at hl
  clear hh hsz hszE
  go_upto_region 9 with fail
  refine wp_region_later (by kernel_rfl) (by kernel_rfl) (Below.refl _ _) ?_
  repeat (first
    | go_big_quiet_skip
    | (go_big_quiet_want; (go_big_quiet_op; go_big_quiet_on)))
  refine wpQuiet_nil ?_
  rintro ⟨W4, hb4⟩
  dsimp only
  clear d0 d2 hl
  have HT4 := Lib.hid (HT3.out.below hb4)
  have HU4 := Lib.hid (HU3.out.trans (Upd.ofBelow _ hb4))
  by_cases hroom : (E.length : Int) + 1 ≤ room
  · go_wp2_with fail
    go_ret2
    exact ⟨⟨g, e0, k, v⟩, rfl, rfl, HU4.out, .inl ⟨hroom, rfl, HT4.out⟩⟩
  · have hroom2 : room < (E.length : Int) + 1 := Int.not_le.1 hroom
    obtain ⟨y, hy⟩ : ∃ y, (⟨g, e0, k, v⟩ :: E : List (Ent Int))[E.length]? = some y := ⟨_, List.getElem?_eq_getElem (by simp)⟩
    have hly := HT4.out.at_lk hy
    have KL := Lib.hid (show Calls Try.prog 20 #[.pointer (some ⟨c, 0, none⟩)] W4 fun e w' => e = .returned (.pointer (some ⟨y.g, 0, none⟩)) ∧ W4 = w' from by
      have := chainLast_any W4 c _ HT4.out.ch
      rw [show (lks TE (⟨g, e0, k, v⟩ :: E)).length - 1 = E.length from by simp [lks], hly] at this
      exact this)
    have KO := Lib.hid (of_any W4 y.g y.e _ _ (HT4.out.node hy))
    have KD := Lib.hid (drop_yes W4 B t room c m _ HT4.out E.length y hy)
    have c1 := HT4.out.box.get (i := 1) rfl
    have y0 := (HT4.out.ents y (List.mem_of_getElem? hy)).get (i := 0) rfl
    have hU4 := HU4.out
    have HX := Lib.hid (show tF TE t c m (⟨g, e0, k, v⟩ :: E : List (Ent Int)) = tF TE t c m (⟨g, e0, k, v⟩ :: E : List (Ent Int)) from rfl)
    have HY := Lib.hid hy
    have hge : w.heap.size ≤ g := by omega
    have HF := Lib.hid (show ∀ b ∈ tF TE t c m (⟨g, e0, k, v⟩ :: E : List (Ent Int)), b ∈ tF TE t c m E ∨ w.heap.size ≤ b from by
      intro b hb
      unfold tF lks cF blocks at hb ⊢
      simp only [List.map_cons, List.mem_cons, List.mem_append, List.cons_append, Ent.lk] at hb ⊢
      rcases hb with h | h | h | h | h | h | h
      · exact .inl (.inl h)
      · exact .inl (.inr (.inl h))
      · exact .inl (.inr (.inr (.inl h)))
      · exact .inr (by omega)
      · exact .inl (.inr (.inr (.inr (.inl h))))
      · exact .inr (by omega)
      · exact .inl (.inr (.inr (.inr (.inr h)))))
    clear hly hy hU4 HX hroom
    go_wp2_with (first
      | (go_at_call 16; refine KD.out.mono ?_; rintro e W5 ⟨rfl, hu5, hT5⟩)
      | (go_at_call 17; refine KO.out.mono ?_; rintro e w' ⟨rfl, rfl⟩)
      | (go_at_call 20; refine KL.out.mono ?_; rintro e w' ⟨rfl, rfl⟩))
    go_ret2
    exact ⟨⟨g, e0, k, v⟩, rfl, rfl, HU4.out.transG hu5 HF.out, .inr ⟨hroom2, y, HY.out, rfl, hT5⟩⟩

end Go.Proofs.Ytnfcpknepnifgaa
