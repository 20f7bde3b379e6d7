/- A table of operations as two lists: plain laws. -/
import Derived.Test.YtddmajgadaooaaaOpAdd
set_option linter.unusedVariables false
namespace Go.Proofs.Ytddmajgadaooaaa
open Go.RowKit

def ids (l : List OpV) : List Int := l.map OpV.id
def got (l : List OpV) (i : Int) : Option OpV := l.find? fun x => decide (x.id = i)
def omap (L D : List OpV) (i : Int) : Option Value := (got (L ++ D) i).map opR.val
def flt (L : List OpV) (f : Fli) : List Int := (L.filter fun x => decide (x.fli = f)).map OpV.id
def butL (L : List OpV) (i : Int) : List OpV := L.filter fun x => decide (x.id ≠ i)
def putO (L : List OpV) (o : OpV) : List OpV := L.map fun x => if x.id = o.id then o else x
def setL (L : List OpV) (o : OpV) : List OpV := if term o.st = true then butL L o.id else putO L o
def endL (keep : Int) (D : List OpV) (o : OpV) : List OpV := if keep < ((D ++ [o]).length : Int) then (D ++ [o]).drop 1 else D ++ [o]
def setDl (keep : Int) (D : List OpV) (o : OpV) : List OpV := if term o.st = true then endL keep D o else D
structure Inv (keep next : Int) (L D : List OpV) : Prop where
  rise : L.Pairwise fun x y => x.id < y.id
  nod : (ids (L ++ D)).Nodup
  rng : ∀ x ∈ L ++ D, 1 ≤ x.id ∧ x.id < next
  live : ∀ x ∈ L, term x.st = false
  ended : ∀ x ∈ D, term x.st = true
  kept : (D.length : Int) ≤ keep

theorem ids_app (a b : List OpV) : ids (a ++ b) = ids a ++ ids b := List.map_append
theorem mem_ids {l : List OpV} {x : OpV} (h : x ∈ l) : x.id ∈ ids l := List.mem_map.2 ⟨x, h, rfl⟩
theorem got_mem {l : List OpV} {i : Int} {x : OpV} (h : got l i = some x) : x ∈ l ∧ x.id = i :=
  ⟨List.mem_of_find?_eq_some h, by simpa using List.find?_some h⟩
theorem got_none {l : List OpV} {i : Int} : got l i = none ↔ ∀ x ∈ l, x.id ≠ i := by
  unfold got
  rw [List.find?_eq_none]
  simp
theorem got_cons (y : OpV) (l : List OpV) (i : Int) : got (y :: l) i = if y.id = i then some y else got l i := by
  unfold got
  rw [List.find?_cons]
  by_cases h : y.id = i
  · rw [if_pos h, decide_eq_true h]
  · rw [if_neg h, decide_eq_false h]
theorem got_of {l : List OpV} {x : OpV} (hn : (ids l).Nodup) (hm : x ∈ l) : got l x.id = some x := by
  induction l with
  | nil => cases hm
  | cons y l ih =>
    have hn' := List.nodup_cons.1 hn
    rw [got_cons]
    rcases List.mem_cons.1 hm with e | hm
    · rw [if_pos (by rw [e]), e]
    · have hne : ¬ y.id = x.id := fun e => hn'.1 (e ▸ mem_ids hm)
      rw [if_neg hne]
      exact ih hn'.2 hm
theorem got_eq {l : List OpV} {i : Int} {r : Option OpV} (hn : (ids l).Nodup) (h1 : ∀ x, r = some x → x ∈ l ∧ x.id = i) (h2 : r = none → ∀ x ∈ l, x.id ≠ i) : got l i = r := by
  cases r with
  | none => exact got_none.2 (h2 rfl)
  | some x =>
    obtain ⟨hm, rfl⟩ := h1 x rfl
    exact got_of hn hm
theorem got_app (a b : List OpV) (i : Int) : got (a ++ b) i = (got a i).or (got b i) := by
  unfold got
  rw [List.find?_append]
theorem same_of_id {l : List OpV} (hn : (ids l).Nodup) {x y : OpV} (hx : x ∈ l) (hy : y ∈ l) (h : x.id = y.id) : x = y := by
  have h1 := got_of hn hx
  have h2 := got_of hn hy
  rw [h, h2] at h1
  exact (Option.some.inj h1).symm

theorem but_ids (L : List OpV) (i : Int) : but i (ids L) = ids (butL L i) := by
  unfold but ids butL
  rw [List.filter_map]
  rfl
theorem put_ids (L : List OpV) (o : OpV) : ids (putO L o) = ids L := by
  unfold putO ids
  rw [List.map_map]
  refine List.map_congr_left fun x _ => ?_
  dsimp only [Function.comp]
  by_cases h : x.id = o.id
  · rw [if_pos h, h]
  · rw [if_neg h]
theorem end_ids (keep : Int) (D : List OpV) (o : OpV) : endD keep (ids D) o.id = ids (endL keep D o) := by
  unfold endD endL
  have e : ids D ++ [o.id] = ids (D ++ [o]) := (ids_app D [o]).symm
  rw [e]
  have hl : (ids (D ++ [o])).length = (D ++ [o]).length := List.length_map _
  rw [hl]
  split
  · unfold ids; rw [List.map_drop]
  · rfl
theorem setA_ids (L : List OpV) (o : OpV) : setA (ids L) o = ids (setL L o) := by
  unfold setA setL
  split
  · exact but_ids L o.id
  · exact (put_ids L o).symm
theorem setD_ids (keep : Int) (D : List OpV) (o : OpV) : setD keep (ids D) o = ids (setDl keep D o) := by
  unfold setD setDl
  split
  · exact end_ids keep D o
  · rfl

section
variable {keep next : Int} {L D : List OpV}
theorem Inv.nodL (h : Inv keep next L D) : (ids L).Nodup := by
  have := h.nod
  rw [ids_app, List.nodup_append] at this
  exact this.1
theorem Inv.nodD (h : Inv keep next L D) : (ids D).Nodup := by
  have := h.nod
  rw [ids_app, List.nodup_append] at this
  exact this.2.1
theorem Inv.apart (h : Inv keep next L D) {x y : OpV} (hx : x ∈ L) (hy : y ∈ D) : x.id ≠ y.id := by
  have := h.nod
  rw [ids_app, List.nodup_append] at this
  exact this.2.2 _ (mem_ids hx) _ (mem_ids hy)
theorem mem_endL {keep : Int} {D : List OpV} {o x : OpV} (h : x ∈ endL keep D o) : x ∈ D ∨ x = o := by
  unfold endL at h
  have : x ∈ D ++ [o] := by
    split at h
    · exact List.mem_of_mem_drop h
    · exact h
  simpa using this
theorem mem_putO {L : List OpV} {o x : OpV} (h : x ∈ putO L o) : (x ∈ L ∧ x.id ≠ o.id) ∨ x = o := by
  unfold putO at h
  obtain ⟨y, hy, he⟩ := List.mem_map.1 h
  by_cases hid : y.id = o.id
  · rw [if_pos hid] at he; exact .inr he.symm
  · rw [if_neg hid] at he; subst he; exact .inl ⟨hy, hid⟩
theorem Inv.nodEnd (h : Inv keep next L D) {was o : OpV} (hw : was ∈ L) (hid : was.id = o.id) : (ids (butL L o.id ++ (D ++ [o]))).Nodup := by
  rw [ids_app, ids_app, List.nodup_append, List.nodup_append]
  refine ⟨?_, ⟨h.nodD, by simp [ids], ?_⟩, ?_⟩
  · rw [← but_ids]; exact h.nodL.filter _
  · intro a ha b hb
    obtain ⟨x, hx, rfl⟩ := List.mem_map.1 ha
    simp [ids] at hb
    subst hb
    rw [← hid]
    exact (h.apart hw hx).symm
  · intro a ha b hb
    obtain ⟨x, hx, rfl⟩ := List.mem_map.1 ha
    obtain ⟨hx1, hx2⟩ := List.mem_filter.1 hx
    have hx3 : x.id ≠ o.id := of_decide_eq_true hx2
    rcases List.mem_append.1 hb with hb | hb
    · obtain ⟨y, hy, rfl⟩ := List.mem_map.1 hb
      exact h.apart hx1 hy
    · simp [ids] at hb
      subst hb
      exact hx3
theorem end_sub (keep : Int) (D : List OpV) (o : OpV) : (endL keep D o).Sublist (D ++ [o]) := by
  unfold endL
  split
  · exact List.drop_sublist _ _
  · exact List.Sublist.refl _
theorem Inv.set (h : Inv keep next L D) (hk : 1 ≤ keep) {was o : OpV} (hw : was ∈ L) (hid : was.id = o.id) : Inv keep next (setL L o) (setDl keep D o) := by
  have hr := h.rng was (List.mem_append_left _ hw)
  rw [hid] at hr
  unfold setL setDl
  cases ht : term o.st with
  | true =>
    rw [if_pos rfl, if_pos rfl]
    refine ⟨h.rise.filter _, ?_, ?_, fun x hx => h.live x (List.mem_filter.1 hx).1, ?_, ?_⟩
    · have hs : (butL L o.id ++ endL keep D o).Sublist (butL L o.id ++ (D ++ [o])) := (List.Sublist.refl _).append (end_sub keep D o)
      exact (h.nodEnd hw hid).sublist (hs.map _)
    · intro x hx
      rcases List.mem_append.1 hx with hx | hx
      · exact h.rng x (List.mem_append_left _ (List.mem_filter.1 hx).1)
      · rcases mem_endL hx with hx | rfl
        · exact h.rng x (List.mem_append_right _ hx)
        · exact hr
    · intro x hx
      rcases mem_endL hx with hx | rfl
      · exact h.ended x hx
      · exact ht
    · have := h.kept
      unfold endL
      split
      · rename_i hc
        rw [List.length_drop]
        simp at hc ⊢
        omega
      · rename_i hc
        simp at hc ⊢
        omega
  | false =>
    rw [if_neg (by simp), if_neg (by simp)]
    refine ⟨?_, ?_, ?_, ?_, h.ended, h.kept⟩
    · have : (ids (putO L o)).Pairwise (· < ·) := by rw [put_ids]; exact List.pairwise_map.2 h.rise
      exact List.pairwise_map.1 this
    · have := h.nod
      rw [ids_app] at this ⊢
      rw [put_ids]; exact this
    · intro x hx
      rcases List.mem_append.1 hx with hx | hx
      · rcases mem_putO hx with ⟨hx, -⟩ | rfl
        · exact h.rng x (List.mem_append_left _ hx)
        · exact hr
      · exact h.rng x (List.mem_append_right _ hx)
    · intro x hx
      rcases mem_putO hx with ⟨hx, -⟩ | rfl
      · exact h.live x hx
      · exact ht
theorem Inv.add (h : Inv keep next L D) {o : OpV} (hb : addBad next o = false) (hn : 1 ≤ next) : Inv keep (next + 1) (L ++ [o]) D := by
  unfold addBad at hb
  rw [Bool.or_eq_false_iff] at hb
  have hid : o.id = next := by simpa using hb.1
  refine ⟨?_, ?_, ?_, ?_, h.ended, h.kept⟩
  · rw [List.pairwise_append]
    refine ⟨h.rise, List.pairwise_singleton _ _, fun a ha b hb => ?_⟩
    simp at hb
    subst hb
    have := h.rng a (List.mem_append_left _ ha)
    omega
  · have h1 := h.nod
    rw [ids_app, List.nodup_append] at h1
    rw [ids_app, ids_app, List.nodup_append, List.nodup_append]
    refine ⟨⟨h1.1, by simp [ids], fun a ha b hb => ?_⟩, h1.2.1, fun a ha b hb => ?_⟩
    · obtain ⟨x, hx, rfl⟩ := List.mem_map.1 ha
      simp [ids] at hb
      subst hb
      have := h.rng x (List.mem_append_left _ hx)
      omega
    · rcases List.mem_append.1 ha with ha | ha
      · exact h1.2.2 a ha b hb
      · simp [ids] at ha
        subst ha
        obtain ⟨x, hx, rfl⟩ := List.mem_map.1 hb
        have := h.rng x (List.mem_append_right _ hx)
        omega
  · intro x hx
    have : x ∈ L ++ D ∨ x = o := by
      rcases List.mem_append.1 hx with hx | hx
      · rcases List.mem_append.1 hx with hx | hx
        · exact .inl (List.mem_append_left _ hx)
        · exact .inr (by simpa using hx)
      · exact .inl (List.mem_append_right _ hx)
    rcases this with hx | rfl
    · have := h.rng x hx; omega
    · omega
  · intro x hx
    rcases List.mem_append.1 hx with hx | hx
    · exact h.live x hx
    · have : x = o := by simpa using hx
      subst this
      exact hb.2
theorem map_ite (c : Prop) [Decidable c] (a b : Option OpV) : (if c then a else b).map opR.val = if c then a.map opR.val else b.map opR.val := by
  split <;> rfl
theorem omap_set (h : Inv keep next L D) {was o : OpV} (hw : was ∈ L) (hid : was.id = o.id) : setM keep (ids D) (omap L D) o = omap (setL L o) (setDl keep D o) := by
  funext i
  have hDo : ∀ x ∈ D, x.id ≠ o.id := fun x hx => by rw [← hid]; exact (h.apart hw hx).symm
  unfold setM setL setDl
  cases ht : term o.st with
  | true =>
    rw [if_pos rfl, if_pos rfl, if_pos rfl]
    have hn := h.nodEnd hw hid
    have hml : ∀ x, x ∈ butL L o.id ↔ x ∈ L ∧ x.id ≠ o.id := fun x => by unfold butL; rw [List.mem_filter]; simp
    unfold endM omap
    have el : (ids D ++ [o.id]).length = (D ++ [o]).length := by simp [ids]
    rw [el]
    unfold endL
    by_cases hc : keep < ((D ++ [o]).length : Int)
    · rw [if_pos hc, if_pos hc]
      have key : got (butL L o.id ++ (D ++ [o]).drop 1) i = (if i = firstI (ids D ++ [o.id]) then none else if i = o.id then some o else got (L ++ D) i) := by
        have hs : (butL L o.id ++ (D ++ [o]).drop 1).Sublist (butL L o.id ++ (D ++ [o])) := (List.Sublist.refl _).append (List.drop_sublist _ _)
        refine got_eq (hn.sublist (hs.map _)) ?_ ?_
        · intro x hx
          split at hx
          · cases hx
          · rename_i h1
            split at hx
            · rename_i h2
              cases hx
              refine ⟨List.mem_append_right _ ?_, h2.symm⟩
              cases D with
              | nil => exact (h1 (by rw [h2]; simp [firstI, ids])).elim
              | cons d D' => simp
            · rename_i h2
              obtain ⟨hm, rfl⟩ := got_mem hx
              refine ⟨?_, rfl⟩
              rcases List.mem_append.1 hm with hm | hm
              · exact List.mem_append_left _ ((hml x).2 ⟨hm, h2⟩)
              · refine List.mem_append_right _ ?_
                cases D with
                | nil => cases hm
                | cons d D' =>
                  rcases List.mem_cons.1 hm with rfl | hm
                  · exact (h1 (by simp [firstI, ids])).elim
                  · simp [hm]
        · intro hr x hx
          split at hr
          · rename_i h1
            rcases List.mem_append.1 hx with hx | hx
            · obtain ⟨hx1, hx2⟩ := (hml x).1 hx
              cases D with
              | nil => rw [h1]; simpa [firstI, ids] using hx2
              | cons d D' => rw [h1]; simpa [firstI, ids] using h.apart hx1 (List.mem_cons_self)
            · cases D with
              | nil => simp at hx
              | cons d D' =>
                have hd : i = d.id := by simpa [firstI, ids] using h1
                rw [hd]
                rw [ids_app, List.nodup_append] at hn
                have h3 := hn.2.1
                rw [List.cons_append] at h3
                exact fun e => (List.nodup_cons.1 h3).1 (e ▸ mem_ids (by simpa using hx))
          · split at hr
            · cases hr
            · rename_i h1 h2
              have hno := got_none.1 hr
              rcases List.mem_append.1 hx with hx | hx
              · exact hno x (List.mem_append_left _ ((hml x).1 hx).1)
              · have : x ∈ D ++ [o] := List.mem_of_mem_drop hx
                rcases List.mem_append.1 this with hx | hx
                · exact hno x (List.mem_append_right _ hx)
                · have : x = o := by simpa using hx
                  subst this
                  exact fun e => h2 e.symm
      rw [key, map_ite, map_ite]
      rfl
    · rw [if_neg hc, if_neg hc]
      have key : got (butL L o.id ++ (D ++ [o])) i = (if i = o.id then some o else got (L ++ D) i) := by
        refine got_eq hn ?_ ?_
        · intro x hx
          split at hx
          · rename_i h2
            cases hx
            exact ⟨by simp, h2.symm⟩
          · rename_i h2
            obtain ⟨hm, rfl⟩ := got_mem hx
            refine ⟨?_, rfl⟩
            rcases List.mem_append.1 hm with hm | hm
            · exact List.mem_append_left _ ((hml x).2 ⟨hm, h2⟩)
            · exact List.mem_append_right _ (List.mem_append_left _ hm)
        · intro hr x hx
          split at hr
          · cases hr
          · rename_i h2
            have hno := got_none.1 hr
            rcases List.mem_append.1 hx with hx | hx
            · exact hno x (List.mem_append_left _ ((hml x).1 hx).1)
            · rcases List.mem_append.1 hx with hx | hx
              · exact hno x (List.mem_append_right _ hx)
              · have : x = o := by simpa using hx
                subst this
                exact fun e => h2 e.symm
      rw [key, map_ite]
      rfl
  | false =>
    rw [if_neg (by simp), if_neg (by simp), if_neg (by simp)]
    unfold omap oneM
    have hn : (ids (putO L o ++ D)).Nodup := by
      have := h.nod
      rw [ids_app] at this ⊢
      rw [put_ids]; exact this
    have hput : ∀ x ∈ L, (if x.id = o.id then o else x) ∈ putO L o := fun x hx => List.mem_map.2 ⟨x, hx, rfl⟩
    have key : got (putO L o ++ D) i = (if i = o.id then some o else got (L ++ D) i) := by
      refine got_eq hn ?_ ?_
      · intro x hx
        split at hx
        · rename_i h2
          cases hx
          refine ⟨List.mem_append_left _ ?_, h2.symm⟩
          have := hput was hw
          rwa [if_pos hid] at this
        · rename_i h2
          obtain ⟨hm, rfl⟩ := got_mem hx
          refine ⟨?_, rfl⟩
          rcases List.mem_append.1 hm with hm | hm
          · have := hput x hm
            rw [if_neg h2] at this
            exact List.mem_append_left _ this
          · exact List.mem_append_right _ hm
      · intro hr x hx
        split at hr
        · cases hr
        · rename_i h2
          have hno := got_none.1 hr
          rcases List.mem_append.1 hx with hx | hx
          · rcases mem_putO hx with ⟨hx, -⟩ | rfl
            · exact hno x (List.mem_append_left _ hx)
            · exact fun e => h2 e.symm
          · exact hno x (List.mem_append_right _ hx)
    rw [key, map_ite]
    rfl
theorem omap_add (h : Inv keep next L D) {o : OpV} (hb : addBad next o = false) (hn : 1 ≤ next) : oneM (omap L D) o = omap (L ++ [o]) D := by
  have hI := h.add hb hn
  unfold addBad at hb
  rw [Bool.or_eq_false_iff] at hb
  have hid : o.id = next := by simpa using hb.1
  funext i
  unfold oneM omap
  have key : got (L ++ [o] ++ D) i = (if i = o.id then some o else got (L ++ D) i) := by
    refine got_eq hI.nod ?_ ?_
    · intro x hx
      split at hx
      · rename_i h2
        cases hx
        exact ⟨by simp, h2.symm⟩
      · obtain ⟨hm, rfl⟩ := got_mem hx
        refine ⟨?_, rfl⟩
        rcases List.mem_append.1 hm with hm | hm
        · simp [hm]
        · simp [hm]
    · intro hr x hx
      split at hr
      · cases hr
      · rename_i h2
        have hno := got_none.1 hr
        rcases List.mem_append.1 hx with hx | hx
        · rcases List.mem_append.1 hx with hx | hx
          · exact hno x (List.mem_append_left _ hx)
          · have : x = o := by simpa using hx
            subst this
            exact fun e => h2 e.symm
        · exact hno x (List.mem_append_right _ hx)
  rw [key, map_ite]
  rfl
theorem flt_add (L : List OpV) (o : OpV) : updF (flt L) o.fli (flt L o.fli ++ [o.id]) = flt (L ++ [o]) := by
  funext f
  unfold updF flt
  rw [List.filter_append, List.map_append]
  by_cases hf : f = o.fli
  · rw [if_pos hf, hf]
    simp
  · have : ¬ o.fli = f := fun e => hf e.symm
    rw [if_neg hf]
    simp [this]
theorem flt_but (L : List OpV) (f : Fli) (i : Int) : but i (flt L f) = flt (butL L i) f := by
  unfold flt butL
  rw [show but i ((L.filter fun x => decide (x.fli = f)).map OpV.id) = but i (ids (L.filter fun x => decide (x.fli = f))) from rfl, but_ids]
  unfold ids butL
  rw [List.filter_filter, List.filter_filter]
  congr 1
  refine List.filter_congr fun x _ => ?_
  rw [Bool.and_comm]
theorem flt_other {L : List OpV} (hn : (ids L).Nodup) {was : OpV} (hw : was ∈ L) {f : Fli} (hf : f ≠ was.fli) : flt (butL L was.id) f = flt L f := by
  unfold flt butL
  rw [List.filter_filter]
  congr 1
  refine List.filter_congr fun x hx => ?_
  by_cases h1 : x.fli = f
  · have : x.id ≠ was.id := fun e => hf (by rw [← h1, same_of_id hn hx hw e])
    simp [h1, this]
  · simp [h1]
theorem flt_put_other {L : List OpV} {o : OpV} {f : Fli} (hf : f ≠ o.fli) : flt (putO L o) f = flt (butL L o.id) f := by
  unfold flt butL putO
  induction L with
  | nil => rfl
  | cons x L ih =>
    rw [List.map_cons, List.filter_cons, List.filter_cons]
    by_cases h1 : x.id = o.id
    · rw [if_pos h1, decide_eq_false (fun e => hf e.symm), decide_eq_false (fun h2 => h2 h1)]
      simpa using ih
    · rw [if_neg h1, decide_eq_true h1]
      rw [if_pos rfl, List.filter_cons]
      by_cases h2 : x.fli = f
      · rw [decide_eq_true h2, if_pos rfl, if_pos rfl, List.map_cons, List.map_cons, ih]
      · rw [decide_eq_false h2, if_neg (by simp), if_neg (by simp), ih]
theorem flt_put_same {L : List OpV} (hn : (ids L).Nodup) {was o : OpV} (hw : was ∈ L) (hid : was.id = o.id) (hf : was.fli = o.fli) (f : Fli) : flt (putO L o) f = flt L f := by
  have hno := fun x (hx : x ∈ L) (e : x.id = o.id) => same_of_id hn hx hw (e.trans hid.symm)
  unfold flt putO
  rw [List.filter_map, List.map_map]
  have e1 : (L.filter ((fun x => decide (x.fli = f)) ∘ fun x => if x.id = o.id then o else x)) = L.filter (fun x => decide (x.fli = f)) := by
    refine List.filter_congr fun x hx => ?_
    have e : (if x.id = o.id then o else x).fli = x.fli := by
      by_cases h1 : x.id = o.id
      · rw [if_pos h1, hno x hx h1, hf]
      · rw [if_neg h1]
    show decide ((if x.id = o.id then o else x).fli = f) = decide (x.fli = f)
    simp only [e]
  rw [e1]
  refine List.map_congr_left fun x _ => ?_
  dsimp only [Function.comp]
  by_cases h1 : x.id = o.id
  · rw [if_pos h1, h1]
  · rw [if_neg h1]
theorem put_perm {L : List OpV} (hn : (ids L).Nodup) {was o : OpV} (hw : was ∈ L) (hid : was.id = o.id) : (putO L o).Perm (butL L o.id ++ [o]) := by
  unfold putO butL
  induction L with
  | nil => cases hw
  | cons x L ih =>
    have hn' := List.nodup_cons.1 hn
    rw [List.map_cons, List.filter_cons]
    by_cases h1 : x.id = o.id
    · rw [if_pos h1, decide_eq_false (fun h2 => h2 h1)]
      have hall : ∀ y ∈ L, y.id ≠ o.id := fun y hy e => hn'.1 (by rw [h1, ← e]; exact mem_ids hy)
      have e1 : (L.map fun x => if x.id = o.id then o else x) = L := by
        conv => rhs; rw [← List.map_id L]
        refine List.map_congr_left fun y hy => ?_
        rw [if_neg (hall y hy)]; rfl
      have e2 : (L.filter fun x => decide (x.id ≠ o.id)) = L := List.filter_eq_self.2 fun y hy => decide_eq_true (hall y hy)
      rw [e1, if_neg (by simp), e2]
      exact (List.perm_append_singleton o L).symm
    · rw [if_neg h1, decide_eq_true h1, if_pos rfl, List.cons_append]
      refine List.Perm.cons _ (ih hn'.2 ?_)
      rcases List.mem_cons.1 hw with rfl | hw
      · exact absurd hid h1
      · exact hw
theorem flt_move (h : Inv keep next L D) {was o : OpV} (hw : was ∈ L) (hid : was.id = o.id) (hf : was.fli ≠ o.fli) (ht : term o.st = false) :
    (flt L o.fli ++ [o.id]).mergeSort (fun x y => decide (x ≤ y)) = flt (putO L o) o.fli := by
  have hp : (flt (putO L o) o.fli).Perm (flt L o.fli ++ [o.id]) := by
    have h1 := ((put_perm h.nodL hw hid).filter fun x => decide (x.fli = o.fli)).map OpV.id
    rw [List.filter_append, List.map_append] at h1
    refine h1.trans ?_
    rw [show ((butL L o.id).filter (fun x => decide (x.fli = o.fli))).map OpV.id = flt L o.fli from by rw [← hid]; exact flt_other h.nodL hw (fun e => hf e.symm)]
    simp
  have hI := h
  have hr : (ids (putO L o)).Pairwise (· < ·) := by rw [put_ids]; exact List.pairwise_map.2 h.rise
  have hs : (flt (putO L o) o.fli).Pairwise (· ≤ ·) := by
    have : (flt (putO L o) o.fli).Sublist (ids (putO L o)) := (List.filter_sublist).map _
    exact (hr.sublist this).imp (fun h => Int.le_of_lt h)
  have hm := List.pairwise_mergeSort (le := fun x y : Int => decide (x ≤ y)) (fun a b c h1 h2 => by simp at h1 h2 ⊢; omega) (fun a b => by simp; omega) (flt L o.fli ++ [o.id])
  refine List.Perm.eq_of_pairwise (le := fun x y : Int => x ≤ y) (fun a b _ _ h1 h2 => by omega) (hm.imp (fun h => of_decide_eq_true h)) hs ((List.mergeSort_perm _ _).trans hp.symm)
theorem flt_set (h : Inv keep next L D) {was o : OpV} (hw : was ∈ L) (hid : was.id = o.id) : setF (flt L) was o = flt (setL L o) := by
  funext f
  unfold setF setL
  cases ht : term o.st with
  | true =>
    rw [if_pos rfl, if_pos rfl]
    unfold updF
    by_cases hf : f = was.fli
    · rw [if_pos hf, hf, flt_but]
    · rw [if_neg hf, ← hid, flt_other h.nodL hw hf]
  | false =>
    rw [if_neg (show ¬ (false = true) by simp), if_neg (show ¬ (false = true) by simp)]
    by_cases hf : was.fli = o.fli
    · rw [if_pos hf, flt_put_same h.nodL hw hid hf]
    · rw [if_neg hf]
      unfold updF
      by_cases h1 : f = o.fli
      · rw [if_pos h1, h1]
        exact flt_move h hw hid hf ht
      · rw [if_neg h1]
        rw [flt_put_other h1]
        by_cases h2 : f = was.fli
        · rw [if_pos h2, h2, flt_but]
        · rw [if_neg h2, ← hid, flt_other h.nodL hw h2]
end
end Go.Proofs.Ytddmajgadaooaaa
