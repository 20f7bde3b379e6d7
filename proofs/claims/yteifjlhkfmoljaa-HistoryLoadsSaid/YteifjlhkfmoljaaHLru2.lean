/- Put of a table of histograms. (Printed by genhlru2.py.) -/
import Derived.Test.YteifjlhkfmoljaaHLru
import Derived.Test.YteifjlhkfmoljaaMix
set_option linter.unusedVariables false
namespace Go.Proofs.Yteifjlhkfmoljaa
open Go.RowKit

theorem quiet_build {P : Program} {C : World → Prop} {K : Act → Prop} {a : Act} {o : Oper} (t : TypeId) (parts : Array (Nat × Operand)) (ho : o.op = .build t parts)
    (ps : List (Nat × Value)) (hp : (parts.map fun (i, x) => (i, a.eval x)).toList = ps) (cells : Array Value) (hf : P.built t ps = some cells) (h : K (a.put o.dst (.agg cells))) : o.quiet P a C K :=
  ⟨.agg cells, fun w hw => by
    unfold Oper.quietAt execOp
    simp only [ho, Sem.run_bind, run_build w t _ _ (hp ▸ hf), Result.andThen_ok]
    trivial, h⟩
set_option maxRecDepth 100000 in
theorem ent_built16 (k : ByteArray) (x0 x1 x2 x3 x4 x5 x6 x7 x8 x9 x10 x11 x12 x13 x14 x15 : Int) : Try.prog.built 77 [(0, .string k), (1, .agg #[.int .i64 x0, .int .i64 x1, .int .i64 x2, .int .i64 x3, .int .i64 x4, .int .i64 x5, .int .i64 x6, .int .i64 x7, .int .i64 x8, .int .i64 x9, .int .i64 x10, .int .i64 x11, .int .i64 x12, .int .i64 x13, .int .i64 x14, .int .i64 x15])] = some #[.string k, .int .i64 x0, .int .i64 x1, .int .i64 x2, .int .i64 x3, .int .i64 x4, .int .i64 x5, .int .i64 x6, .int .i64 x7, .int .i64 x8, .int .i64 x9, .int .i64 x10, .int .i64 x11, .int .i64 x12, .int .i64 x13, .int .i64 x14, .int .i64 x15] := by kernel_rfl
set_option maxRecDepth 100000 in
theorem ent_built (k : ByteArray) (v : Hs) : Try.prog.built 77 [(0, .string k), (1, hV v)] = some (.string k :: vh v).toArray := by
  obtain ⟨l, hl⟩ := v
  match l, hl with
  | [x0, x1, x2, x3, x4, x5, x6, x7, x8, x9, x10, x11, x12, x13, x14, x15], _ => exact ent_built16 k x0 x1 x2 x3 x4 x5 x6 x7 x8 x9 x10 x11 x12 x13 x14 x15

theorem lks_erase {α : Type} (ty : TypeId) (E : List (Ent α)) (i : Nat) : lks ty (E.eraseIdx i) = (lks ty E).eraseIdx i := by
  unfold lks
  rw [List.eraseIdx_eq_take_drop_succ, List.eraseIdx_eq_take_drop_succ, List.map_append, List.map_take, List.map_drop]

theorem put_nil (w : World) (k : ByteArray) (v : Hs) : Calls Try.prog 17 #[.pointer none, .string k, hV v] w fun e w' => e = .returned (.tuple #[.string ⟨#[]⟩, .bool false]) ∧ Below w.heap.size w w' := by
  go_enter Try.func17, Try.ntmps17
  go_wp2_with fail
  go_ret2
  exact ⟨rfl, (Below.refl _ _).alloc (Nat.le_refl _) _⟩
set_option maxRecDepth 100000 in
set_option maxHeartbeats 1500000 in
theorem put_old (w0 : World) (B t : Nat) (room : Int) (c m : Nat) (E : List (Ent Hs)) (h0 : TabH B w0 t room c m E) (i : Nat) (x : Ent Hs) (hx : E[i]? = some x) (v : Hs) :
    Calls Try.prog 17 #[.pointer (some ⟨t, 0, none⟩), .string x.key, hV v] w0 fun e w' => e = .returned (.tuple #[.string ⟨#[]⟩, .bool false]) ∧ Upd (tF TE t c m E) w0 w' ∧ TabH B w' t room c m ({ x with v := v } :: E.eraseIdx i) := by
  have hb0 : Below w0.heap.size w0 (w0.alloc (.cells (vh v).toArray 49)) := (Below.refl _ _).alloc (Nat.le_refl _) _
  have hr0 : (w0.alloc (.cells (vh v).toArray 49)).rangeAt w0.heap.size 0 (vh v) := row_range (t := 49) (heap_alloc_new _ _)
  have hnF : w0.heap.size ∉ tF TE t c m E := fun hin => Nat.lt_irrefl _ (h0.low _ hin).2
  obtain ⟨w, hw⟩ : ∃ w, w = w0.alloc (.cells (vh v).toArray 49) := ⟨_, rfl⟩
  rw [← hw] at hb0 hr0
  have h := h0.below hb0
  clear h0
  have hxm := List.mem_of_getElem? hx
  have c2 := h.box.get (i := 2) rfl
  have hf := Lib.hid (mf_mem h.keys hxm)
  have HT := Lib.hid h
  have HX := Lib.hid hx
  have hxe := h.inE hxm
  clear h hx hxm
  go_enter Try.func17, Try.ntmps17
  go_upto_region 1 with fail
  show Code.wp _ _ _ _ (w0.alloc (.cells (vh v).toArray 49))
  rw [← hw]
  clear hw
  go_upto_region 5 with (refine wl_lookupOk strKey rfl _ _ _ _ rfl keyAt zeroLink rfl HT.out.map x.key rfl ?_; rw [hf.out]; simp only [Option.getD_some, Option.isSome_some])
  have hne : Nonempty (Mix.InS (fun z => z.rangeAt w0.heap.size 0 (vh v))) := ⟨⟨w, hr0⟩⟩
  have RH := Lib.hid (fun (w' : World) (hx : ∃ x : Mix.InS (fun z => z.rangeAt w0.heap.size 0 (vh v)), w' = x.w) => (show w'.rangeAt w0.heap.size 0 (vh v) from by obtain ⟨z, rfl⟩ := hx; exact z.h))
  refine Mix.wp_region_mix [([0, 2], 1), ([3, 4], 5)] [] (fun w' => ∃ x : Mix.InS (fun z => z.rangeAt w0.heap.size 0 (vh v)), w' = x.w) (by kernel_rfl) (by kernel_rfl) (Mix.inS_mk (below_range (Below.refl _ _).drew hr0)) ?_
  have hbd : Below w.heap.size w w.drew := (Below.refl _ _).drew
  generalize w.drew = W1 at hbd ⊢
  have HT1 := Lib.hid (HT.out.below hbd)
  have HR1 := Lib.hid (below_range hbd hr0)
  refine Mix.stages_cons ?_
  simp only [Mix.pickL, List.getElem?_cons_zero, List.getElem?_cons_succ]
  repeat (first
    | go_big_quiet_skip
    | (go_big_quiet_want; first
      | (refine quiet_load_mid 49 _ rfl w0.heap.size 0 rfl (vh v) _ RH.out histU rfl (vhRow v) ?_; simp only [Act.put, List.setIfInBounds_toArray, List.set_cons_succ, List.set_cons_zero]; go_big_quiet_on)
      | (go_big_quiet_op; go_big_quiet_on)))
  refine wpQuiet_nil ?_
  go_wp2_with (go_at_call 33; refine (of_any W1 x.g x.e _ _ (HT1.out.node HX.out)).mono ?_; rintro e w' ⟨rfl, rfl⟩)
  refine Mix.onward_in HR1.out ?_
  refine Mix.stages_cons ?_
  simp only [Mix.pickL, List.getElem?_cons_zero, List.getElem?_cons_succ]
  repeat (first
    | go_big_quiet_skip
    | (go_big_quiet_want; (go_big_quiet_op; go_big_quiet_on)))
  refine wpQuiet_nil ?_
  have HTH : Hid (W1.there x.e 1 (vh v).toArray.size) := Lib.hid (fun j hj => by
    have hl : (vh v).toArray.size = 16 := by rw [List.size_toArray]; exact vh_length v
    have := (HT1.out.ents x (List.mem_of_getElem? HX.out)).there (1 + j) (by rw [List.length_cons, vh_length]; omega)
    simpa using this)
  go_wp2_with (refine wpList_store_mid rfl 49 _ _ rfl x.e 1 (vh v).toArray rfl rfl HTH.out (vhRow' v) (vhOne v) ?_)
  have hU : Upd [x.e] W1 (W1.setCells x.e 1 (vh v).toArray.toList) := (Upd.refl _ _).setCells (by simp) _ _
  have hC : Cel (W1.setCells x.e 1 (vh v).toArray.toList) x.e (.string x.key :: vh v) := by
    have := (HT1.out.ents x (List.mem_of_getElem? HX.out)).sets (vh v).toArray.toList 1
    rw [show (List.take 1 (Value.string x.key :: vh x.v) ++ List.take ((Value.string x.key :: vh x.v).length - 1) (vh v).toArray.toList ++ List.drop (1 + (vh v).toArray.toList.length) (Value.string x.key :: vh x.v)) = .string x.key :: vh v from by
      rw [List.take_of_length_le (l := (vh v).toArray.toList) (by simp [vh_length]), List.drop_eq_nil_of_le (by simp [vh_length])]
      simp] at this
    exact this
  have HS := Lib.hid (HT1.out.store HX.out v hU hC)
  have HU := Lib.hid ((Upd.ofBelow [x.e] hbd).trans hU)
  have hR2 := hU.range (by simp; exact fun e => hnF (e ▸ hxe)) HR1.out
  clear hU hC
  generalize W1.setCells x.e 1 (vh v).toArray.toList = W2 at HS HU hR2 ⊢
  refine Mix.onward_in hR2 ?_
  refine Mix.stages_nil ?_
  simp only [Mix.pickL]
  refine wpQuiet_nil ?_
  clear hne hR2
  go_upto_region 6 with fail
  have hxi : (E.set i { x with v := v })[i]? = some { x with v := v } := by
    rw [List.getElem?_set_self (List.getElem?_eq_some_iff.1 HX.out).1]
  have KF := Lib.hid (chainFront_any W2 c _ HS.out.ch i x.g _ (HS.out.at_lk (x := { x with v := v }) hxi))
  have c12 := HS.out.box.get (i := 1) rfl
  have HXI := Lib.hid hxi
  clear c2 hxi
  go_wp2_with (go_at_call 34; refine KF.out.mono ?_; rintro e W3 ⟨rfl, hu3, hq3⟩)
  go_ret2
  have hT := HS.out.chain hu3 (perm_erase HXI.out) (by rw [← lks_erase] at hq3; exact hq3)
  rw [show (E.set i { x with v := v }).eraseIdx i = E.eraseIdx i from by
    refine List.ext_getElem? (fun j => ?_)
    rw [List.getElem?_eraseIdx, List.getElem?_eraseIdx, List.getElem?_set, List.getElem?_set]
    split
    · rw [if_neg (by omega)]
    · rw [if_neg (by omega)]] at hT
  refine ⟨rfl, (Upd.ofBelow _ hb0).trans ((HU.out.mono (by simpa using hxe)).trans (hu3.mono (fun b hb => ?_))), hT⟩
  have := HS.out.inC hb
  have e : tF TE t c m (E.set i { x with v := v }) = tF TE t c m E := by
    unfold tF lks
    have hl := (List.getElem?_eq_some_iff.1 HX.out).1
    have g : ∀ {β : Type} (f : Ent Hs → β), f { x with v := v } = f x → (E.set i { x with v := v }).map f = E.map f := by
      intro β f hfx
      rw [List.map_set]
      refine List.ext_getElem? (fun j => ?_)
      rw [List.getElem?_set]
      split
      · rename_i hki
        subst hki
        rw [List.getElem?_map, HX.out]
        simp [hl, hfx]
      · rfl
    rw [g (Ent.lk TE) rfl, g Ent.e rfl]
  rwa [e] at this

/-- The key that a table gives up for one more, and what is left. -/
def PutGives (w : World) (B t : Nat) (room : Int) (c m : Nat) (E : List (Ent Hs)) (k : ByteArray) (v : Hs) (e : Ending) (w' : World) : Prop :=
  ∃ x : Ent Hs, x.key = k ∧ x.v = v ∧ Upd (tF TE t c m E) w w' ∧
    (((E.length : Int) + 1 ≤ room ∧ e = .returned (.tuple #[.string ⟨#[]⟩, .bool false]) ∧ TabH B w' t room c m (x :: E)) ∨
      (room < (E.length : Int) + 1 ∧ ∃ y, (x :: E)[E.length]? = some y ∧ e = .returned (.tuple #[.string y.key, .bool true]) ∧ TabH B w' t room c m ((x :: E).eraseIdx E.length)))

set_option maxRecDepth 100000 in
set_option maxHeartbeats 4000000 in
theorem put_new (w0 : World) (B t : Nat) (room : Int) (c m : Nat) (E : List (Ent Hs)) (h0 : TabH B w0 t room c m E) (hB : B ≤ w0.heap.size) (k : ByteArray) (hk : ∀ x ∈ E, x.key ≠ k) (v : Hs) (hbig : E.length ≤ 1000000) :
    Calls Try.prog 17 #[.pointer (some ⟨t, 0, none⟩), .string k, hV v] w0 (PutGives w0 B t room c m E k v) := by
  have hb0 : Below w0.heap.size w0 (w0.alloc (.cells (vh v).toArray 49)) := (Below.refl _ _).alloc (Nat.le_refl _) _
  have hr0 : (w0.alloc (.cells (vh v).toArray 49)).rangeAt w0.heap.size 0 (vh v) := row_range (t := 49) (heap_alloc_new _ _)
  have hnF : w0.heap.size ∉ tF TE t c m E := fun hin => Nat.lt_irrefl _ (h0.low _ hin).2
  obtain ⟨w, hw⟩ : ∃ w, w = w0.alloc (.cells (vh v).toArray 49) := ⟨_, rfl⟩
  rw [← hw] at hb0 hr0
  have h := h0.below hb0
  clear h0
  have c2 := h.box.get (i := 2) rfl
  have hf := Lib.hid (mf_none hk)
  have HT := Lib.hid h
  have HK := Lib.hid hk
  have HI := Lib.hid (show (if (mf E k).isSome = true then E.length else E.length + 1) = E.length + 1 from by rw [hf.out]; rfl)
  obtain ⟨p1, p2, -, p4, -⟩ := h.parts
  have hlow := Lib.hid h.low
  have P2 := Lib.hid p2
  have P4 := Lib.hid p4
  have P1 := Lib.hid p1
  clear h hk p1 p2 p4
  go_enter Try.func17, Try.ntmps17
  go_upto_region 1 with fail
  show Code.wp _ _ _ _ (w0.alloc (.cells (vh v).toArray 49))
  rw [← hw]
  clear hw
  go_upto_region 8 with (refine wl_lookupOk strKey rfl _ _ _ _ rfl keyAt zeroLink rfl HT.out.map k rfl ?_; rw [hf.out]; simp only [Option.getD_none, Option.isSome_none])
  have hS : Cel w t [.int .i64 room, .pointer (some ⟨c, 0, none⟩), .map (some m)] := HT.out.box
  have hne : Nonempty (Mix.InS (fun x => Cel x t [.int .i64 room, .pointer (some ⟨c, 0, none⟩), .map (some m)] ∧ x.rangeAt w0.heap.size 0 (vh v))) := ⟨⟨w, hS, hr0⟩⟩
  have RH := Lib.hid (fun (w' : World) (hx : ∃ x : Mix.InS (fun x => Cel x t [.int .i64 room, .pointer (some ⟨c, 0, none⟩), .map (some m)] ∧ x.rangeAt w0.heap.size 0 (vh v)), w' = x.w) => (show w'.rangeAt w0.heap.size 0 (vh v) from by obtain ⟨z, rfl⟩ := hx; exact z.h.2))
  have d1 := fun (z : Mix.InS (fun x => Cel x t [.int .i64 room, .pointer (some ⟨c, 0, none⟩), .map (some m)] ∧ x.rangeAt w0.heap.size 0 (vh v))) => z.h.1.get (i := 1) rfl
  have d2 := fun (z : Mix.InS (fun x => Cel x t [.int .i64 room, .pointer (some ⟨c, 0, none⟩), .map (some m)] ∧ x.rangeAt w0.heap.size 0 (vh v))) => z.h.1.get (i := 2) rfl
  refine Mix.wp_region_mix [([0, 1, 2, 3, 4, 5, 6, 7, 8, 9, 10, 11], 12), ([], 13), ([], 14), ([], 15)] [] (fun w' => ∃ x : Mix.InS (fun x => Cel x t [.int .i64 room, .pointer (some ⟨c, 0, none⟩), .map (some m)] ∧ x.rangeAt w0.heap.size 0 (vh v)), w' = x.w) (by kernel_rfl) (by kernel_rfl) (Mix.inS_mk ⟨hS.below (Below.refl _ _).drew, below_range (Below.refl _ _).drew hr0⟩) ?_
  have hbd : Below w.heap.size w w.drew := (Below.refl _ _).drew
  generalize w.drew = W0 at hbd ⊢
  refine Mix.stages_cons ?_
  simp only [Mix.pickL, List.getElem?_cons_zero, List.getElem?_cons_succ]
  repeat (first
    | go_big_quiet_skip
    | (go_big_quiet_want; first
      | (refine quiet_load_mid 49 _ rfl w0.heap.size 0 rfl (vh v) _ RH.out histU rfl (vhRow v) ?_; simp only [Act.put, List.setIfInBounds_toArray, List.set_cons_succ, List.set_cons_zero]; go_big_quiet_on)
      | (refine quiet_build 77 _ rfl [(0, .string k), (1, hV v)] (by kernel_rfl) (.string k :: vh v).toArray (ent_built k v) ?_; simp only [Act.put, List.setIfInBounds_toArray, List.set_cons_succ, List.set_cons_zero]; go_big_quiet_on)
      | (go_big_quiet_op; go_big_quiet_on)))
  refine wpQuiet_nil ?_
  go_wp2_with fail
  have hb1 : Below w.heap.size w (W0.alloc (.cells (.string k :: vh v).toArray 77)) := bthen' hbd ((Below.refl _ _).alloc (Nat.le_refl _) _)
  have hce : Cel (W0.alloc (.cells (.string k :: vh v).toArray 77)) W0.heap.size (.string k :: vh v) := Cel.new W0 77 (.string k :: vh v)
  have hsz : (W0.alloc (.cells (.string k :: vh v).toArray 77)).heap.size = W0.heap.size + 1 := by simp
  obtain ⟨e0, he0⟩ : ∃ e0, e0 = W0.heap.size := ⟨_, rfl⟩
  rw [← he0] at hce hsz ⊢
  have hwe : w.heap.size ≤ e0 := by have := hbd.size; omega
  generalize W0.alloc (.cells (.string k :: vh v).toArray 77) = W1 at hb1 hce hsz ⊢
  have he1 : e0 < W1.heap.size := by omega
  clear hsz he0
  refine Mix.onward_in ⟨hS.below hb1, below_range hb1 hr0⟩ ?_
  refine Mix.stages_cons ?_
  simp only [Mix.pickL, List.getElem?_cons_zero, List.getElem?_cons_succ]
  refine wpQuiet_nil ?_
  have hfc := fun (w : World) (v : Option Addr) => faced w v
  go_wp2_with fail
  refine Mix.onward_in ⟨hS.below hb1, below_range hb1 hr0⟩ ?_
  refine Mix.stages_cons ?_
  simp only [Mix.pickL, List.getElem?_cons_zero, List.getElem?_cons_succ]
  refine wpQuiet_nil ?_
  have hq1 := HT.out.ch.below hb1
  go_wp2_with (go_at_call 35; refine (chainPut_any W1 c (lks TE E) hq1 (fun i hi => by have := (hlow.out i (HT.out.inC hi)).2; have := hb1.size; omega) TE (.pointer (some ⟨e0, 0, none⟩))).mono ?_; rintro e W2 ⟨g, rfl, hg1, hg2, hu2, hq2⟩)
  have hS2 := (hS.below hb1).upd hu2 P2.out
  have hR2 := hu2.range (fun hin => hnF (HT.out.inC hin)) (below_range hb1 hr0)
  refine Mix.onward_in ⟨hS2, hR2⟩ ?_
  refine Mix.stages_cons ?_
  simp only [Mix.pickL, List.getElem?_cons_zero, List.getElem?_cons_succ]
  refine wpQuiet_nil ?_
  have HM2 := Lib.hid ((HT.out.map.below hb1).upd hu2 P4.out)
  go_wp2_with (refine wl_update strKey rfl _ _ _ _ _ rfl keyAt rfl HM2.out k rfl (.pointer (some ⟨g, 0, none⟩)) rfl ?_; intro W3 hu3 hm3; rw [HI.out] at hm3; simp only [Act.put])
  have hT3 := HT.out.push ⟨g, e0, k, v⟩ HK.out hb1 hwe he1 hce hu2 hg1 hg2 hq2 hu3 hm3 (Nat.le_trans hB hb0.size)
  have hU3 : Upd (tF TE t c m E) w W3 := ((Upd.ofBelow _ hb1).trans (hu2.mono (fun b hb => HT.out.inC hb))).trans (hu3.mono (by simp [tF]))
  refine Mix.onward_in ⟨hS2.upd hu3 (by simpa using P1.out), hu3.range (by simp; exact fun e => hnF (by simp [tF, e])) hR2⟩ ?_
  refine Mix.stages_nil ?_
  simp only [Mix.pickL]
  refine wpQuiet_nil ?_
  have HT3 := Lib.hid hT3
  have HU3 := Lib.hid hU3
  clear hT3 hU3 d1 d2 hne hS2 hR2 RH HM2 hfc hq1 hu2 hq2 hu3 hm3 hce hb1 hbd c2 hS
  obtain ⟨es, clock, hh, hsz⟩ := HT3.out.map.size
  have hl := fun (z : Later W3) ty => run_len_map (P := Try.prog) z.w 72 ty m es clock (by kernel_rfl) (z.block hh)
  have hszE : es.size = E.length + 1 := hsz
  have d0 := fun (z : Later W3) => z.cell (HT3.out.box.get (i := 0) rfl)
  have d2 := fun (z : Later W3) => z.cell (HT3.out.box.get (i := 2) rfl)
  rw [hszE] at hl
  clear hh hsz hszE
  go_upto_region 9 with fail
  refine wp_region_later (by kernel_rfl) (by kernel_rfl) (Below.refl _ _) ?_
  repeat (first
    | go_big_quiet_skip
    | (go_big_quiet_want; (go_big_quiet_op; go_big_quiet_on)))
  refine wpQuiet_nil ?_
  rintro ⟨W4, hb4⟩
  dsimp only
  clear d0 d2 hl
  have HT4 := Lib.hid (HT3.out.below hb4)
  have HU4 := Lib.hid (HU3.out.trans (Upd.ofBelow _ hb4))
  by_cases hroom : (E.length : Int) + 1 ≤ room
  · go_wp2_with fail
    go_ret2
    exact ⟨⟨g, e0, k, v⟩, rfl, rfl, (Upd.ofBelow _ hb0).trans HU4.out, .inl ⟨hroom, rfl, HT4.out⟩⟩
  · have hroom2 : room < (E.length : Int) + 1 := Int.not_le.1 hroom
    obtain ⟨y, hy⟩ : ∃ y, (⟨g, e0, k, v⟩ :: E : List (Ent Hs))[E.length]? = some y := ⟨_, List.getElem?_eq_getElem (by simp)⟩
    have hly := HT4.out.at_lk hy
    have KL := Lib.hid (show Calls Try.prog 36 #[.pointer (some ⟨c, 0, none⟩)] W4 fun e w' => e = .returned (.pointer (some ⟨y.g, 0, none⟩)) ∧ W4 = w' from by
      have := chainLast_any W4 c _ HT4.out.ch
      rw [show (lks TE (⟨g, e0, k, v⟩ :: E)).length - 1 = E.length from by simp [lks], hly] at this
      exact this)
    have KO := Lib.hid (of_any W4 y.g y.e _ _ (HT4.out.node hy))
    have KD := Lib.hid (drop_yes W4 B t room c m _ HT4.out E.length y hy)
    have c1 := HT4.out.box.get (i := 1) rfl
    have y0 := (HT4.out.ents y (List.mem_of_getElem? hy)).get (i := 0) rfl
    have hU4 := HU4.out
    have HX := Lib.hid (show tF TE t c m (⟨g, e0, k, v⟩ :: E : List (Ent Hs)) = tF TE t c m (⟨g, e0, k, v⟩ :: E : List (Ent Hs)) from rfl)
    have HY := Lib.hid hy
    have hge : w.heap.size ≤ g := by omega
    have HF := Lib.hid (show ∀ b ∈ tF TE t c m (⟨g, e0, k, v⟩ :: E : List (Ent Hs)), b ∈ tF TE t c m E ∨ w.heap.size ≤ b from by
      intro b hb
      unfold tF lks cF blocks at hb ⊢
      simp only [List.map_cons, List.mem_cons, List.mem_append, List.cons_append, Ent.lk] at hb ⊢
      rcases hb with h | h | h | h | h | h | h
      · exact .inl (.inl h)
      · exact .inl (.inr (.inl h))
      · exact .inl (.inr (.inr (.inl h)))
      · exact .inr (by omega)
      · exact .inl (.inr (.inr (.inr (.inl h))))
      · exact .inr (by omega)
      · exact .inl (.inr (.inr (.inr (.inr h)))))
    clear hly hy hU4 HX hroom
    go_wp2_with (first
      | (go_at_call 37; refine KD.out.mono ?_; rintro e W5 ⟨rfl, hu5, hT5⟩)
      | (go_at_call 33; refine KO.out.mono ?_; rintro e w' ⟨rfl, rfl⟩)
      | (go_at_call 36; refine KL.out.mono ?_; rintro e w' ⟨rfl, rfl⟩))
    go_ret2
    exact ⟨⟨g, e0, k, v⟩, rfl, rfl, (Upd.ofBelow _ hb0).trans (HU4.out.transG hu5 HF.out), .inr ⟨hroom2, y, HY.out, rfl, hT5⟩⟩

end Go.Proofs.Yteifjlhkfmoljaa

