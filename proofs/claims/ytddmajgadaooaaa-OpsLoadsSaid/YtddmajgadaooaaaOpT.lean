/- A table of operations as two lists: what its functions tell. -/
import Derived.Test.YtddmajgadaooaaaOpPure
set_option linter.unusedVariables false
namespace Go.Proofs.Ytddmajgadaooaaa
open Go.RowKit

/-- A table in memory has these lists. -/
structure OT (T : Nat → Prop) (w : World) (t : Nat) (keep next : Int) (L D : List OpV) : Prop where
  inv : Inv keep next L D
  mem : ∃ lv ev m fm sl, OMem T w t keep next lv ev m fm sl (ids L) (ids D) (omap L D) (flt L)
def addE (next : Int) (o : OpV) : Int := if addBad next o = true then 1 else 0
def addN (next : Int) (o : OpV) : Int := if addBad next o = true then next else next + 1
def addL (next : Int) (L : List OpV) (o : OpV) : List OpV := if addBad next o = true then L else L ++ [o]
def setsL (L : List OpV) (o : OpV) : List OpV := if (got L o.id).isSome = true then setL L o else L
def setsD (keep : Int) (L D : List OpV) (o : OpV) : List OpV := if (got L o.id).isSome = true then setDl keep D o else D
def AddT (T : Nat → Prop) (w : World) (t : Nat) (keep next : Int) (L D : List OpV) (o : OpV) (e : Ending) (w' : World) : Prop :=
  e = .returned (.int .i64 (addE next o)) ∧ UpdP T w w' ∧ OT (Gr T w w') w' t keep (addN next o) (addL next L o) D
def SetT (T : Nat → Prop) (w : World) (t : Nat) (keep next : Int) (L D : List OpV) (o : OpV) (e : Ending) (w' : World) : Prop :=
  e = .returned (.bool (got L o.id).isSome) ∧ UpdP T w w' ∧ OT (Gr T w w') w' t keep next (setsL L o) (setsD keep L D o)

theorem Inv.nil (keep next : Int) (h : 1 ≤ keep) : Inv keep next [] [] := ⟨List.Pairwise.nil, List.nodup_nil, by simp, by simp, by simp, by simp; omega⟩
theorem new_T (w : World) (keep : Int) (h : 1 ≤ keep) : Calls Try.prog 7 #[.int .i64 keep] w fun e w' => ∃ t, e = .returned (.pointer (some ⟨t, 0, none⟩)) ∧ Below w.heap.size w w' ∧ OT (fun k => w.heap.size ≤ k ∧ k < w'.heap.size) w' t keep 1 [] [] := by
  refine (new_any w keep h).mono ?_
  rintro e w' ⟨t, rfl, hb, m, fm, hm⟩
  exact ⟨t, rfl, hb, Inv.nil keep 1 h, _, _, _, _, _, hm⟩

section
variable {T : Nat → Prop} {w w' : World} {t : Nat} {keep next : Int} {L D : List OpV}
theorem OT.below (h : OT T w t keep next L D) (hb : Below w.heap.size w w') : OT T w' t keep next L D := by
  obtain ⟨hi, lv, ev, m, fm, sl, hm⟩ := h
  exact ⟨hi, lv, ev, m, fm, sl, hm.below hb⟩
theorem OT.upd {F : List Nat} (h : OT T w t keep next L D) (hu : Upd F w w') (hF : ∀ k ∈ F, ¬ T k) : OT T w' t keep next L D := by
  obtain ⟨hi, lv, ev, m, fm, sl, hm⟩ := h
  exact ⟨hi, lv, ev, m, fm, sl, hm.upd hu hF⟩
theorem OT.wider {T' : Nat → Prop} (h : OT T w t keep next L D) (hT : ∀ k, T k → T' k) (hlt : ∀ k, T' k → k < w.heap.size) : OT T' w t keep next L D := by
  obtain ⟨hi, lv, ev, m, fm, sl, hm⟩ := h
  exact ⟨hi, lv, ev, m, fm, sl, hm.wider hT hlt⟩
theorem OT.lt (h : OT T w t keep next L D) : ∀ k, T k → k < w.heap.size := by
  obtain ⟨hi, lv, ev, m, fm, sl, hm⟩ := h
  exact hm.lt
theorem OT.tT (h : OT T w t keep next L D) : T t := by
  obtain ⟨hi, lv, ev, m, fm, sl, hm⟩ := h
  exact hm.tT.1
theorem OT.same (h : OT T w t keep next L D) (hb : Below w.heap.size w w') : OT (Gr T w w') w' t keep next L D :=
  (h.below hb).wider (fun k hk => .inl hk) (fun k hk => by
    have := hb.size
    rcases hk with h1 | h1
    · have := h.lt k h1; omega
    · exact h1.2)
theorem flt_len (L : List OpV) (f : Fli) : (flt L f).length ≤ L.length := by
  unfold flt
  rw [List.length_map]
  exact List.length_filter_le _ _
theorem ids_len (L : List OpV) : (ids L).length = L.length := List.length_map _
theorem add_T (h : OT T w t keep next L D) (o : OpV) (hn : 1 ≤ next ∧ next ≤ 1000000) (hL : L.length ≤ 900) :
    Calls Try.prog 13 #[.pointer (some ⟨t, 0, none⟩), .agg o.cells.toArray] w (AddT T w t keep next L D o) := by
  have h0 := h
  obtain ⟨hi, lv, ev, m, fm, sl, hm⟩ := h
  have hf := flt_len L o.fli
  have hl := ids_len L
  unfold AddT addE addN addL
  cases hb : addBad next o with
  | true =>
    refine (add_bad T w t keep next lv ev m fm sl _ _ _ _ hm o hb).mono ?_
    rintro e w' ⟨rfl, hbl⟩
    exact ⟨rfl, UpdP.ofB hbl, h0.same hbl⟩
  | false =>
    refine (add_ok T w t keep next lv ev m fm sl _ _ _ _ hm o hb (by omega) (by omega) (by omega)).mono ?_
    rintro e w' ⟨rfl, hu, lv', ev', sl', hm'⟩
    refine ⟨rfl, hu, hi.add hb hn.1, lv', ev', m, fm, sl', ?_⟩
    rw [omap_add hi hb hn.1, flt_add] at hm'
    have e1 : ids L ++ [o.id] = ids (L ++ [o]) := (ids_app L [o]).symm
    rw [e1] at hm'
    exact hm'
theorem set_T (h : OT T w t keep next L D) (o : OpV) (hk : 1 ≤ keep) (hL : L.length ≤ 900) (hD : D.length ≤ 900) :
    Calls Try.prog 15 #[.pointer (some ⟨t, 0, none⟩), .agg o.cells.toArray] w (SetT T w t keep next L D o) := by
  have h0 := h
  obtain ⟨hi, lv, ev, m, fm, sl, hm⟩ := h
  have hl := ids_len L
  have hld := ids_len D
  unfold SetT setsL setsD
  cases hg : got L o.id with
  | none =>
    have hone : omap L D o.id = (got D o.id).map opR.val := by unfold omap; rw [got_app, hg]; rfl
    cases hd : got D o.id with
    | none =>
      rw [hd] at hone
      refine (set_none T w t keep next lv ev m fm sl _ _ _ _ hm o hone).mono ?_
      rintro e w' ⟨rfl, hbl⟩
      exact ⟨rfl, UpdP.ofB hbl, h0.same hbl⟩
    | some was =>
      rw [hd] at hone
      refine (set_over T w t keep next lv ev m fm sl _ _ _ _ hm o was hone (hi.ended was (got_mem hd).1)).mono ?_
      rintro e w' ⟨rfl, hbl⟩
      exact ⟨rfl, UpdP.ofB hbl, h0.same hbl⟩
  | some was =>
    obtain ⟨hw, hid⟩ := got_mem hg
    have hone : omap L D o.id = (some was).map opR.val := by unfold omap; rw [got_app, hg]; rfl
    have hf1 := flt_len L was.fli
    have hf2 := flt_len L o.fli
    refine (set_yes T w t keep next lv ev m fm sl _ _ _ _ hm o was hone (hi.live was hw) (by omega) (by omega) hk (by omega) (by omega)).mono ?_
    rintro e w' ⟨rfl, hu, lv', ev', sl', hm'⟩
    refine ⟨rfl, hu, hi.set hk hw hid, lv', ev', m, fm, sl', ?_⟩
    rw [setA_ids, setD_ids, omap_set hi hw hid, flt_set hi hw hid] at hm'
    exact hm'
theorem get_T (h : OT T w t keep next L D) (i : Int) :
    Calls Try.prog 14 #[.pointer (some ⟨t, 0, none⟩), .int .i64 i] w fun e w' => e = .returned (.tuple #[opR.val ((got (L ++ D) i).getD zeroOp), .bool (got (L ++ D) i).isSome]) ∧ Below w.heap.size w w' := by
  obtain ⟨hi, lv, ev, m, fm, sl, hm⟩ := h
  exact get_any T w t keep next lv ev m fm sl _ _ _ _ hm i _ rfl
theorem flight_T (h : OT T w t keep next L D) (f : Fli) :
    Calls Try.prog 22 #[.pointer (some ⟨t, 0, none⟩), .int .i64 f.ten, .agg f.a.cells.toArray] w fun e w' => e = .returned (.tuple #[.int .i64 (firstI (flt L f)), .bool (decide (flt L f ≠ []))]) ∧ Below w.heap.size w w' := by
  obtain ⟨hi, lv, ev, m, fm, sl, hm⟩ := h
  exact flight_any T w t keep next lv ev m fm sl _ _ _ _ hm f _ rfl
theorem omap_of (hi : Inv keep next L D) {x : OpV} (hx : x ∈ L ++ D) : omap L D x.id = some (opR.val x) := by
  unfold omap
  rw [got_of hi.nod hx]
  rfl
theorem live_T (h : OT T w t keep next L D) (hL : L.length ≤ 100000) : Calls Try.prog 11 #[.pointer (some ⟨t, 0, none⟩)] w (GivesO w L) := by
  obtain ⟨hi, lv, ev, m, fm, sl, hm⟩ := h
  exact live_any T w t keep next lv ev m fm sl L D _ _ hm (fun x hx => omap_of hi (List.mem_append_left _ hx)) hL
theorem ended_T (h : OT T w t keep next L D) (hD : D.length ≤ 100000) : Calls Try.prog 10 #[.pointer (some ⟨t, 0, none⟩)] w (GivesO w D) := by
  obtain ⟨hi, lv, ev, m, fm, sl, hm⟩ := h
  exact ended_any T w t keep next lv ev m fm sl L D _ _ hm (fun x hx => omap_of hi (List.mem_append_right _ hx)) hD
theorem next_T (h : OT T w t keep next L D) : Calls Try.prog 12 #[.pointer (some ⟨t, 0, none⟩)] w fun e w' => e = .returned (.int .i64 next) ∧ w = w' := by
  obtain ⟨hi, lv, ev, m, fm, sl, hm⟩ := h
  exact next_any w t _ next hm.box rfl
end
end Go.Proofs.Ytddmajgadaooaaa
