/- The document's wheel: Turn. (Printed by genwhref4.py.) -/
import Derived.Test.YtkbjlpdmmbldpaaWhRef3
import Derived.Test.YtkbjlpdmmbldpaaTree
set_option linter.unusedVariables false
set_option linter.unusedSimpArgs false
set_option maxRecDepth 100000
namespace Go.Proofs.Ytkbjlpdmmbldpaa
open Go.RowKit

theorem timRow3 (l : List Value) (h : l.length = 3) : (Try.prog.info? 54).map (·.size) = some l.length := by rw [h]; kernel_rfl
theorem timOne3 (x y z : Int) : (#[.int .i64 x, .int .i64 y, .int .u64 z] : Array Value).all (·.oneCell') = true := by simp [Value.oneCell']
structure PartR (L : List Tm) (to2 : Nat) (Lc out : List Tm) : Prop where
  srt : out.Pairwise ltT
  mem : ∀ x ∈ out, x ∈ L ∧ x.t ≤ to2
  rest : Lc = L.filter fun x => decide (x ∉ out)
  ord : ∀ x ∈ out, ∀ y ∈ Lc, ltT x y
  cnt : out.length + Lc.length = L.length
theorem PartR.start (L : List Tm) (to2 : Nat) : PartR L to2 L [] := ⟨List.Pairwise.nil, by simp, (List.filter_eq_self.2 (fun x _ => by simp)).symm, by simp, by simp⟩
theorem PartR.fin {L : List Tm} {to2 : Nat} {Lc out : List Tm} (h : PartR L to2 Lc out) (hall : ∀ y ∈ Lc, to2 < y.t) : TurnOk L to2 out ∧ Lc = restT L to2 := by
  refine ⟨⟨h.srt, fun x => ⟨h.mem x, fun ⟨h1, h2⟩ => ?_⟩⟩, ?_⟩
  · by_cases hx : x ∈ out
    · exact hx
    · have := hall x (by rw [h.rest]; exact List.mem_filter.2 ⟨h1, decide_eq_true hx⟩)
      omega
  · rw [h.rest]
    unfold restT
    refine List.filter_congr fun x hx => ?_
    by_cases ho : x ∈ out
    · have := (h.mem x ho).2
      rw [decide_eq_false (by simpa using ho), decide_eq_false (by omega)]
    · have := hall x (by rw [h.rest]; exact List.mem_filter.2 ⟨hx, decide_eq_true ho⟩)
      rw [decide_eq_true ho, decide_eq_true this]
theorem same_id {L : List Tm} (hn : (idsT L).Nodup) {x y : Tm} (hx : x ∈ L) (hy : y ∈ L) (e : x.id = y.id) : x = y := by
  have a := gotT_of hn hx
  rw [e, gotT_of hn hy] at a
  exact (Option.some.inj a).symm
theorem nodup_filter {L : List Tm} (p : Tm → Bool) (hn : (idsT L).Nodup) : (idsT (L.filter p)).Nodup := hn.sublist (List.filter_sublist.map _)
theorem PartR.step {L : List Tm} {to2 : Nat} {Lc out : List Tm} {y : Tm} (h : PartR L to2 Lc out) (hn : (idsT L).Nodup) (hy : y ∈ Lc) (hmin : ∀ z ∈ Lc, ¬ ltT z y) (hto : y.t ≤ to2) : PartR L to2 (butT Lc y.id) (out ++ [y]) := by
  have hsub : ∀ x, x ∈ Lc ↔ x ∈ L ∧ x ∉ out := fun x => by rw [h.rest, List.mem_filter]; simp
  have hyL := (hsub y).1 hy
  have hnc : (idsT Lc).Nodup := by rw [h.rest]; exact nodup_filter _ hn
  have hb : ∀ z, z ∈ butT Lc y.id ↔ z ∈ Lc ∧ z.id ≠ y.id := fun z => by unfold butT; rw [List.mem_filter]; simp
  refine ⟨?_, fun x hx => ?_, ?_, fun x hx z hz => ?_, ?_⟩
  · rw [List.pairwise_append]
    exact ⟨h.srt, List.pairwise_singleton _ _, fun x hx z hz => by simp at hz; subst hz; exact h.ord x hx _ hy⟩
  · rcases List.mem_append.1 hx with hx | hx
    · exact h.mem x hx
    · simp at hx; subst hx; exact ⟨hyL.1, hto⟩
  · unfold butT
    conv => lhs; rw [h.rest, List.filter_filter]
    refine List.filter_congr fun x hx => ?_
    by_cases e : x.id = y.id
    · obtain rfl := same_id hn hx hyL.1 e
      simp
    · have : x ≠ y := fun e2 => e (by rw [e2])
      simp [e, this]
  · obtain ⟨h1, h2⟩ := (hb z).1 hz
    rcases List.mem_append.1 hx with hx | hx
    · exact h.ord x hx z h1
    · simp at hx; subst hx
      have := hmin z h1
      unfold ltT at *
      omega
  · have := butT_len hnc hy
    have := h.cnt
    simp; omega
/-- While it turns. -/
structure TR (G : Nat → Prop) (w wr : World) (r now : Nat) (Lc : List Tm) (ov : Value) (out : List Tm) : Prop where
  upd : UpdP G w wr
  rw : ∃ G' : Nat → Prop, RW G' wr r now Lc ∧ (∀ k, G' k → Gr G w wr k) ∧ ∀ k, ov.ownBlock = some k → ¬ G' k
  own : Owns timR w.heap.size wr ov out
namespace TR
variable {G : Nat → Prop} {w wr w' : World} {r now : Nat} {Lc : List Tm} {ov : Value} {out : List Tm}
theorem below (h : TR G w wr r now Lc ov out) (hb : Below wr.heap.size wr w') : TR G w w' r now Lc ov out := by
  obtain ⟨h1, ⟨G', h2, h3, h4⟩, h5⟩ := h
  have := hb.size
  exact ⟨wt_gr h1 (UpdP.ofB hb), ⟨G', h2.below hb, fun k hk => by rcases h3 k hk with h9 | h9; exact .inl h9; exact .inr ⟨h9.1, by omega⟩, h4⟩, h5.below hb⟩
theorem parts (h : TR G w wr r now Lc ov out) : ∃ a c, Cel wr r [.int .u64 (now : Int), .slice a Lc.length c] ∧ Reads timR wr (.slice a Lc.length c) Lc := by
  obtain ⟨h1, ⟨G', ⟨⟨v, h6, h7, h8, h9⟩, h10⟩, h3, h4⟩, h5⟩ := h
  obtain ⟨a, c, rfl⟩ := h8.form
  exact ⟨a, c, h6, h8.lts timOk⟩
theorem app {u : Value} {out2 : List Tm} (h : TR G w wr r now Lc ov out) (ho : Owns timR w.heap.size w' u out2) (hg : wr.grownBy w' ov.ownBlock) (ha : ∀ k, u.ownBlock = some k → ov.ownBlock = some k ∨ k = wr.heap.size) : TR G w w' r now Lc u out2 := by
  obtain ⟨h1, ⟨G', h2, h3, h4⟩, h5⟩ := h
  have hs := hg.size
  have hs1 := h1.size
  refine ⟨h1.trans ⟨hg.os, hg.tape, hg.output, hg.size, fun k hk hn => hg.block k hk (fun e9 => hn (.inr ⟨(h5.lt k e9.symm).1, (h5.lt k e9.symm).2⟩))⟩, ⟨G', h2.updP (P := fun k => ov.ownBlock = some k) ⟨hg.os, hg.tape, hg.output, hg.size, fun k hk hn => hg.block k hk (fun e9 => hn e9.symm)⟩ h4, fun k hk => ?_, fun k hk h9 => ?_⟩, ho⟩
  · rcases h3 k hk with h9 | h9
    · exact .inl h9
    · exact .inr ⟨h9.1, by omega⟩
  · rcases ha k hk with e9 | e9
    · exact h4 k e9 h9
    · have := h2.lt k h9; omega
theorem drop (h : TR G w wr r now Lc ov out) (i : Int) (hL : Lc.length ≤ 100000) :
    Calls Try.prog 20 #[.pointer (some ⟨r, 0, none⟩), .int .i64 i] wr fun e w' => (∃ b, e = .returned (.bool b)) ∧ TR G w w' r now (butT Lc i) ov out := by
  obtain ⟨h1, ⟨G', h2, h3, h4⟩, h5⟩ := h
  refine (rdrop_any h2 i hL).mono ?_
  rintro e w' ⟨rfl, hu, hw⟩
  have hs := hu.size
  have hs1 := h1.size
  refine ⟨⟨_, rfl⟩, h1.trans ⟨hu.os, hu.tape, hu.output, hu.size, fun k hk hn => hu.block k hk (fun h9 => hn (h3 k h9))⟩, ⟨_, hw, fun k hk => ?_, fun k hk h9 => ?_⟩, owns_keepsR h5 (fun k hk => hu.block k (h5.lt k hk).2 (h4 k hk))⟩
  · rcases hk with hk | hk
    · rcases h3 k hk with h9 | h9
      · exact .inl h9
      · exact .inr ⟨h9.1, by omega⟩
    · exact .inr ⟨by omega, hk.2⟩
  · rcases h9 with h9 | h9
    · exact h4 k hk h9
    · have := (h5.lt k hk).2; omega
end TR
def RTurnP (G : Nat → Prop) (w : World) (r now : Nat) (L : List Tm) (to2 : Nat) (e : Ending) (w' : World) : Prop :=
  ∃ (ov : Value) (out : List Tm), e = .returned ov ∧ UpdP G w w' ∧ (∃ G' : Nat → Prop, RW G' w' r (max now to2) (restT L to2) ∧ (∀ k, G' k → Gr G w w' k) ∧ ∀ k, ov.ownBlock = some k → ¬ G' k) ∧ Owns timR w.heap.size w' ov out ∧ TurnOk L to2 out
theorem TR.fin {G : Nat → Prop} {w wr : World} {r now to2 : Nat} {L Lc : List Tm} {ov : Value} {out : List Tm} (h : TR G w wr r now Lc ov out) (hr : G r) (hp : PartR L to2 Lc out) (hall : ∀ y ∈ Lc, to2 < y.t) :
    RTurnP G w r now L to2 (.returned ov) (wr.setCell ⟨r, 0, none⟩ (.int .u64 ((max now to2 : Nat) : Int))) := by
  obtain ⟨h1, ⟨G', h2, h3, h4⟩, h5⟩ := h
  obtain ⟨hT, rfl⟩ := hp.fin hall
  have hw : (wr.setCell ⟨r, 0, none⟩ (.int .u64 ((max now to2 : Nat) : Int))).heap.size = wr.heap.size := by simp [World.setCell]
  have hU : Upd [r] wr (wr.setCell ⟨r, 0, none⟩ (.int .u64 ((max now to2 : Nat) : Int))) := (Upd.refl [r] _).setCell (by simp) _
  obtain ⟨⟨v, h6, h7, h8, h9⟩, h10⟩ := h2
  refine ⟨ov, out, rfl, wt_gr h1 (UpdP.of hU (fun k hk => by simp at hk; subst hk; exact .inl hr)), ⟨G', ⟨⟨v, h6.set 0 _, h7, h8.upd hU (fun k hk => by simpa using (h9 k hk).2), h9⟩, fun k hk => by rw [hw]; exact h10 k hk⟩, fun k hk => ?_, h4⟩, h5.upd hU (fun k hk => ?_), hT⟩
  · rcases h3 k hk with h9 | h9
    · exact .inl h9
    · exact .inr ⟨h9.1, by rw [hw]; exact h9.2⟩
  · simp
    rintro rfl
    exact h4 _ hk h7

set_option maxHeartbeats 8000000 in
theorem rturn_any {G : Nat → Prop} {w : World} {r now : Nat} {L : List Tm} (h : RW G w r now L) (hn : (idsT L).Nodup) (to2 : Nat) (hL : L.length ≤ 40000) :
    Calls Try.prog 21 #[.pointer (some ⟨r, 0, none⟩), .int .u64 (to2 : Int)] w (RTurnP G w r now L to2) := by
  have hb1 : Below w.heap.size w (w.alloc (.cells #[] timR.ty)) := (Below.refl _ _).alloc (Nat.le_refl _) _
  have hG := Lib.hid (show G r from h.mem.elim fun v hv => hv.2.1)
  have HN := Lib.hid hn
  have hT1 : TR G w (w.alloc (.cells #[] timR.ty)) r now L (.slice (some ⟨w.heap.size, 0, none⟩) 0 0) [] := by
    refine ⟨UpdP.ofB hb1, ⟨G, h.below hb1, fun k hk => .inl hk, fun k hk h9 => ?_⟩, Owns.made (Nat.le_refl _)⟩
    simp [Value.ownBlock] at hk
    have := h.lt k h9
    omega
  obtain ⟨W1, hW1⟩ : ∃ W1, W1 = w.alloc (.cells #[] timR.ty) := ⟨_, rfl⟩
  rw [← hW1] at hT1
  have HT1 := Lib.hid hT1
  clear h hn hT1 hb1
  go_enter Try.func21, Try.ntmps21
  go_upto_block 0 with fail
  show Code.wp _ _ _ _ (w.alloc (.cells #[] timR.ty))
  rw [← hW1]
  clear hW1
  go_wp2_with fail
  go_loopw [5] (fun o5 wr => ∃ (ov : Value) (Lc out : List Tm), o5 = ov ∧ TR G w wr r now Lc ov out ∧ Hid (PartR L to2 Lc out)) (fun o5 _ => L.length - lenV o5)
  case atStart => exact ⟨_, L, [], rfl, HT1.out, Lib.hid (PartR.start L to2)⟩
  case round =>
    obtain ⟨ov, Lc, out, hov, hT, hP⟩ := hrel
    obtain ⟨ao, co, rfl⟩ := hT.own.form
    subst hov
    have HT := Lib.hid hT
    obtain ⟨a, c, hcel, hrd⟩ := hT.parts
    have c1 := hcel.get (i := 1) rfl
    have hcr := hcel.range
    have hcnt := hP.out.cnt
    have HC := Lib.hid hcel
    clear hT
    by_cases hpos : 0 < Lc.length
    · obtain ⟨x0, hx0⟩ : ∃ x, Lc[0]? = some x := ⟨_, List.getElem?_eq_getElem hpos⟩
      obtain ⟨b, o, rfl, -⟩ := hrd.at hx0
      have HR := Lib.hid hrd
      clear hx0 hrd hcel
      have KF := Lib.hid (fun (W : World) (hb : Below wr.heap.size wr W) => rfirst_any W now _ Lc (HR.out.below hb) (by omega) hpos)
      go_upto_region 3 with fail
      have hne : Nonempty (Mix.InS (fun z => Below wr.heap.size wr z)) := ⟨⟨wr, Below.refl _ _⟩⟩
      (try simp only [Act.put])
      have d0 := fun (z : Mix.InS (fun z => Below wr.heap.size wr z)) => below_cell z.h c1
      have RC := Lib.hid (fun (w' : World) (hx : ∃ x : Mix.InS (fun z => Below wr.heap.size wr z), w' = x.w) => (show w'.rangeAt r 0 [.int .u64 (now : Int), .slice (some ⟨b, o, none⟩) Lc.length c] from by obtain ⟨z, rfl⟩ := hx; exact below_range z.h hcr))
      clear c1 hcr
      refine Mix.wp_region_tree (.two [0, 1, 2, 3, 4, 5, 6] 7 (.op [8, 9] 10 (.op [] 11 (.fin []))) 10 (.op [] 7 (.op [8, 9] 11 (.fin [])))) (fun w' => ∃ x : Mix.InS (fun z => Below wr.heap.size wr z), w' = x.w) (by kernel_rfl) (by kernel_rfl) (Mix.inS_mk (Below.refl _ _).drew) ?_
      have hb3 : Below wr.heap.size wr wr.drew := (Below.refl _ _).drew
      generalize wr.drew = W3 at hb3 ⊢
      refine Mix.tree_two ?_
      simp only [Mix.pickL, List.getElem?_cons_zero, List.getElem?_cons_succ]
      repeat (first
        | go_big_quiet_skip
        | (go_big_quiet_want; first
          | (refine quiet_load_mid 37 _ rfl r 0 rfl [.int .u64 (now : Int), .slice (some ⟨b, o, none⟩) Lc.length c] _ RC.out Try.underlying37 rfl wRow ?_; simp only [Act.put, List.setIfInBounds_toArray, List.set_cons_succ, List.set_cons_zero]; go_big_quiet_on)
          | (go_big_quiet_op; go_big_quiet_on)))
      refine wpQuiet_nil ?_
      clear RC
      refine ⟨?_, ?_⟩
      · go_wp2_with (go_at_call 50; refine (KF.out W3 hb3).mono ?_; rintro e W4 ⟨hb4, f, y, rfl, hfy, hmin⟩)
        have hb34 := bthen' hb3 hb4
        refine Mix.onward_in hb34 ?_
        obtain ⟨b9, o9, e9, r9⟩ := HR.out.at hfy
        simp only [Value.slice.injEq, Option.some.injEq, Addr.mk.injEq, and_true] at e9
        obtain ⟨e3, e4⟩ := e9
        subst e3 e4
        have R9 := Lib.hid (fun (w' : World) (hx : ∃ x : Mix.InS (fun z => Below wr.heap.size wr z), w' = x.w) => (show w'.rangeAt b (o + f * timR.n) (timR.cells y) from by obtain ⟨z, rfl⟩ := hx; exact below_range z.h r9))
        have hfl : f < Lc.length := (List.getElem?_eq_some_iff.1 hfy).1
        have HFY := Lib.hid hfy
        have HMIN := Lib.hid hmin
        clear r9 hfy hmin
        refine Mix.tree_op ?_
        simp only [Mix.pickL, List.getElem?_cons_zero, List.getElem?_cons_succ]
        repeat (first
          | go_big_quiet_skip
          | (go_big_quiet_want; first
            | (refine quiet_load_mid 54 _ rfl b (o + f * timR.n) rfl (timR.cells y) _ R9.out Try.underlying54 rfl (timOk.row y) ?_; simp only [Act.put, List.setIfInBounds_toArray, List.set_cons_succ, List.set_cons_zero]; go_big_quiet_on)
            | (go_big_quiet_op; go_big_quiet_on)))
        refine wpQuiet_nil ?_
        clear R9
        go_wp2_with fail
        have hb35 : Below wr.heap.size wr (W4.alloc (.cells #[.int .i64 0, .int .i64 0, .int .u64 0] 54)) := hb34.alloc hb34.size _
        have hn35 := heap_alloc_new W4 (.cells #[.int .i64 0, .int .i64 0, .int .u64 0] 54)
        refine Mix.onward_in (W' := W4.alloc (.cells #[.int .i64 0, .int .i64 0, .int .u64 0] 54)) hb35 ?_
        have hg9 := hb34.size
        refine Mix.tree_op ?_
        simp only [Mix.pickL, List.getElem?_cons_zero, List.getElem?_cons_succ]
        refine wpQuiet_nil ?_
        go_wp2_with (refine wpList_store_row rfl 54 _ _ rfl W4.heap.size #[.int .i64 y.k, .int .i64 y.id, .int .u64 (y.t : Int)] rfl rfl 54 #[.int .i64 0, .int .i64 0, .int .u64 0] hn35 (timRow3 _ rfl) rfl (timOne3 _ _ _) ?_)
        have hb5 : Below wr.heap.size wr ((W4.alloc (.cells #[.int .i64 0, .int .i64 0, .int .u64 0] 54)).setRow W4.heap.size #[.int .i64 y.k, .int .i64 y.id, .int .u64 (y.t : Int)]) := below_row hb35 hg9 _
        have hn5 := setRow_heap #[.int .i64 y.k, .int .i64 y.id, .int .u64 (y.t : Int)] hn35
        refine Mix.onward_in (W' := (W4.alloc (.cells #[.int .i64 0, .int .i64 0, .int .u64 0] 54)).setRow W4.heap.size #[.int .i64 y.k, .int .i64 y.id, .int .u64 (y.t : Int)]) hb5 ?_
        clear hn35 hb35
        generalize (W4.alloc (.cells #[.int .i64 0, .int .i64 0, .int .u64 0] 54)).setRow W4.heap.size #[.int .i64 y.k, .int .i64 y.id, .int .u64 (y.t : Int)] = W5 at hb5 hn5 ⊢
        refine Mix.tree_fin ?_
        (try simp only [Act.put])
        simp only [Mix.pickL]
        refine wpQuiet_nil ?_
        (try simp only [Act.put])
        generalize W4.heap.size = g9 at hn5 hg9 ⊢
        have hg9o : (Value.slice ao out.length co).ownBlock ≠ some g9 := fun e9 => by have := (HT.out.own.lt g9 e9).2; omega
        clear hb3 hb4 hb34 hg9
        clear d0 hne
        have hT5 := HT.out.below hb5
        have r7 : W5.rangeAt g9 0 (timR.cells y) := row_reads y hn5
        have c7 : W5.cell? ⟨g9, 1, none⟩ = some (.int .i64 y.id) := r7 1 _ rfl
        have c8 : W5.cell? ⟨g9, 2, none⟩ = some (.int .u64 (y.t : Int)) := r7 2 _ rfl
        have hyin := List.mem_of_getElem? HFY.out
        have HY := Lib.hid hyin
        by_cases hto : to2 < y.t
        · have q1 : decide ((to2 : Int) < (y.t : Int)) = true := by simp; omega
          have q2 : decide (to2 < y.t) = true := by simp; omega
          have k0 := (HC.out.below hb5).get (i := 0) rfl
          have k0f := (HC.out.below hb5).free (i := 0) rfl
          have HF := Lib.hid (hT5.fin hG.out hP.out (fun z hz => by have := HMIN.out z hz; unfold ltT at this; omega))
          clear hT5 hb5 hn5 r7 hyin
          go_wp2_with fail
          go_ret
          have hfin := HF.out
          rw [show ((max now to2 : Nat) : Int) = max (now : Int) (to2 : Int) from by omega] at hfin
          exact hfin
        · have q1 : decide ((to2 : Int) < (y.t : Int)) = false := by simp; omega
          have q2 : decide (to2 < y.t) = false := by simp; omega
          have HT5 := Lib.hid hT5
          have HP2 := Lib.hid (hP.out.step HN.out hyin HMIN.out (by omega))
          have hsz := hT5.upd.size
          clear hT5 hb5 hn5 hyin
          go_upto_region 6 with (first
            | (refine wpList_load_mid rfl 54 _ rfl g9 0 rfl (timR.cells y) _ r7 Try.underlying54 rfl (timOk.row y) ?_)
            | (refine wl_build_rec timOk rfl _ rfl y rfl ?_; have hx5 := built_range (R := timR) (w := W5) y; have hb6 : Below W5.heap.size W5 (W5.alloc (.cells (timR.val y).cells timR.ty)) := (Below.refl _ _).alloc (Nat.le_refl _) _; generalize W5.alloc (.cells (timR.val y).cells timR.ty) = W6 at hx5 hb6 ⊢; have hT6 := HT5.out.below hb6; have hsz6 := hb6.size)
            | (refine wl_append_rec timOk rfl _ _ rfl w.heap.size _ out rfl hT6.own W5.heap.size 0 1 y rfl hx5 (by omega) (by omega) ?_; intro g cap W7 hO7 hg7 hat7; have hT7 := hT6.app hO7 hg7 (fun k hk => by simp [Value.ownBlock] at hk; subst hk; exact hat7); have c7b : W7.cell? ⟨g9, 1, none⟩ = some (.int .i64 y.id) := hg7.cell (below_cell hb6 c7) (by intro e9; exact hg9o e9.symm)))
          have KD := Lib.hid (hT7.drop y.id (by omega))
          clear hT7 hT6 hO7 hg7 hat7 hx5 hb6 c7 c8 r7
          go_wp2_with (go_at_call 20; refine KD.out.mono ?_; rintro e W8 ⟨⟨b8, rfl⟩, hT8⟩)
          go_roundw
          case rel => exact ⟨_, butT Lc y.id, out ++ [y], rfl, by simpa using hT8, HP2⟩
          case measure => simp [lenV]; omega
      · go_wp2_with fail
        have hbA : Below wr.heap.size wr (W3.alloc (.cells #[.int .i64 0, .int .i64 0, .int .u64 0] 54)) := hb3.alloc hb3.size _
        have hnA := heap_alloc_new W3 (.cells #[.int .i64 0, .int .i64 0, .int .u64 0] 54)
        refine Mix.onward_in (W' := W3.alloc (.cells #[.int .i64 0, .int .i64 0, .int .u64 0] 54)) hbA ?_
        have hg9 := hb3.size
        obtain ⟨g9, hg9e⟩ : ∃ g, g = W3.heap.size := ⟨_, rfl⟩
        rw [← hg9e] at hnA hg9 ⊢
        generalize W3.alloc (.cells #[.int .i64 0, .int .i64 0, .int .u64 0] 54) = W3b at hbA hnA ⊢
        clear hg9e
        refine Mix.tree_op ?_
        simp only [Mix.pickL, List.getElem?_cons_zero, List.getElem?_cons_succ]
        refine wpQuiet_nil ?_
        go_wp2_with (go_at_call 50; refine (KF.out W3b hbA).mono ?_; rintro e W4 ⟨hb4, f, y, rfl, hfy, hmin⟩)
        have hnB := kept hb4 hnA
        have hb34 := bthen' hbA hb4
        refine Mix.onward_in hb34 ?_
        obtain ⟨b9, o9, e9, r9⟩ := HR.out.at hfy
        simp only [Value.slice.injEq, Option.some.injEq, Addr.mk.injEq, and_true] at e9
        obtain ⟨e3, e4⟩ := e9
        subst e3 e4
        have R9 := Lib.hid (fun (w' : World) (hx : ∃ x : Mix.InS (fun z => Below wr.heap.size wr z), w' = x.w) => (show w'.rangeAt b (o + f * timR.n) (timR.cells y) from by obtain ⟨z, rfl⟩ := hx; exact below_range z.h r9))
        have hfl : f < Lc.length := (List.getElem?_eq_some_iff.1 hfy).1
        have HFY := Lib.hid hfy
        have HMIN := Lib.hid hmin
        clear r9 hfy hmin
        refine Mix.tree_op ?_
        simp only [Mix.pickL, List.getElem?_cons_zero, List.getElem?_cons_succ]
        repeat (first
          | go_big_quiet_skip
          | (go_big_quiet_want; first
            | (refine quiet_load_mid 54 _ rfl b (o + f * timR.n) rfl (timR.cells y) _ R9.out Try.underlying54 rfl (timOk.row y) ?_; simp only [Act.put, List.setIfInBounds_toArray, List.set_cons_succ, List.set_cons_zero]; go_big_quiet_on)
            | (go_big_quiet_op; go_big_quiet_on)))
        refine wpQuiet_nil ?_
        clear R9
        go_wp2_with (refine wpList_store_row rfl 54 _ _ rfl g9 #[.int .i64 y.k, .int .i64 y.id, .int .u64 (y.t : Int)] rfl rfl 54 #[.int .i64 0, .int .i64 0, .int .u64 0] hnB (timRow3 _ rfl) rfl (timOne3 _ _ _) ?_)
        have hb5 : Below wr.heap.size wr (W4.setRow g9 #[.int .i64 y.k, .int .i64 y.id, .int .u64 (y.t : Int)]) := below_row hb34 hg9 _
        have hn5 := setRow_heap #[.int .i64 y.k, .int .i64 y.id, .int .u64 (y.t : Int)] hnB
        refine Mix.onward_in (W' := W4.setRow g9 #[.int .i64 y.k, .int .i64 y.id, .int .u64 (y.t : Int)]) hb5 ?_
        generalize W4.setRow g9 #[.int .i64 y.k, .int .i64 y.id, .int .u64 (y.t : Int)] = W5 at hb5 hn5 ⊢
        refine Mix.tree_fin ?_
        (try simp only [Act.put])
        simp only [Mix.pickL]
        refine wpQuiet_nil ?_
        (try simp only [Act.put])
        have hg9o : (Value.slice ao out.length co).ownBlock ≠ some g9 := fun e9 => by have := (HT.out.own.lt g9 e9).2; omega
        clear hb3 hb4 hb34 hbA hnA hnB hg9
        clear d0 hne
        have hT5 := HT.out.below hb5
        have r7 : W5.rangeAt g9 0 (timR.cells y) := row_reads y hn5
        have c7 : W5.cell? ⟨g9, 1, none⟩ = some (.int .i64 y.id) := r7 1 _ rfl
        have c8 : W5.cell? ⟨g9, 2, none⟩ = some (.int .u64 (y.t : Int)) := r7 2 _ rfl
        have hyin := List.mem_of_getElem? HFY.out
        have HY := Lib.hid hyin
        by_cases hto : to2 < y.t
        · have q1 : decide ((to2 : Int) < (y.t : Int)) = true := by simp; omega
          have q2 : decide (to2 < y.t) = true := by simp; omega
          have k0 := (HC.out.below hb5).get (i := 0) rfl
          have k0f := (HC.out.below hb5).free (i := 0) rfl
          have HF := Lib.hid (hT5.fin hG.out hP.out (fun z hz => by have := HMIN.out z hz; unfold ltT at this; omega))
          clear hT5 hb5 hn5 r7 hyin
          go_wp2_with fail
          go_ret
          have hfin := HF.out
          rw [show ((max now to2 : Nat) : Int) = max (now : Int) (to2 : Int) from by omega] at hfin
          exact hfin
        · have q1 : decide ((to2 : Int) < (y.t : Int)) = false := by simp; omega
          have q2 : decide (to2 < y.t) = false := by simp; omega
          have HT5 := Lib.hid hT5
          have HP2 := Lib.hid (hP.out.step HN.out hyin HMIN.out (by omega))
          have hsz := hT5.upd.size
          clear hT5 hb5 hn5 hyin
          go_upto_region 6 with (first
            | (refine wpList_load_mid rfl 54 _ rfl g9 0 rfl (timR.cells y) _ r7 Try.underlying54 rfl (timOk.row y) ?_)
            | (refine wl_build_rec timOk rfl _ rfl y rfl ?_; have hx5 := built_range (R := timR) (w := W5) y; have hb6 : Below W5.heap.size W5 (W5.alloc (.cells (timR.val y).cells timR.ty)) := (Below.refl _ _).alloc (Nat.le_refl _) _; generalize W5.alloc (.cells (timR.val y).cells timR.ty) = W6 at hx5 hb6 ⊢; have hT6 := HT5.out.below hb6; have hsz6 := hb6.size)
            | (refine wl_append_rec timOk rfl _ _ rfl w.heap.size _ out rfl hT6.own W5.heap.size 0 1 y rfl hx5 (by omega) (by omega) ?_; intro g cap W7 hO7 hg7 hat7; have hT7 := hT6.app hO7 hg7 (fun k hk => by simp [Value.ownBlock] at hk; subst hk; exact hat7); have c7b : W7.cell? ⟨g9, 1, none⟩ = some (.int .i64 y.id) := hg7.cell (below_cell hb6 c7) (by intro e9; exact hg9o e9.symm)))
          have KD := Lib.hid (hT7.drop y.id (by omega))
          clear hT7 hT6 hO7 hg7 hat7 hx5 hb6 c7 c8 r7
          go_wp2_with (go_at_call 20; refine KD.out.mono ?_; rintro e W8 ⟨⟨b8, rfl⟩, hT8⟩)
          go_roundw
          case rel => exact ⟨_, butT Lc y.id, out ++ [y], rfl, by simpa using hT8, HP2⟩
          case measure => simp [lenV]; omega
    · have hnil : Lc = [] := List.length_eq_zero_iff.1 (by omega)
      subst hnil
      have k0 := hcel.get (i := 0) rfl
      have k0f := hcel.free (i := 0) rfl
      have HF := Lib.hid (HT.out.fin hG.out hP.out (by simp))
      clear hcel hrd hcr
      go_wp2_with fail
      go_ret
      have hfin := HF.out
      rw [show ((max now to2 : Nat) : Int) = max (now : Int) (to2 : Int) from by omega] at hfin
      exact hfin
end Go.Proofs.Ytkbjlpdmmbldpaa
