/- A table that forgets, in memory; of things of any kind. -/
import Derived.Test.YteifjlhkfmoljaaChain
import Derived.Test.YteifjlhkfmoljaaMap
set_option linter.unusedVariables false
namespace Go.Proofs.Yteifjlhkfmoljaa
open Go.RowKit

/-- A thing by its key: its link's block, its own. -/
structure Ent (α : Type) where
  g : Nat
  e : Nat
  key : ByteArray
  v : α
section
variable {α : Type}
def Ent.lk (ty : TypeId) (x : Ent α) : Lk := (x.g, .iface ty (.pointer (some ⟨x.e, 0, none⟩)))
def lks (ty : TypeId) (E : List (Ent α)) : List Lk := E.map (Ent.lk ty)
def mf : List (Ent α) → ByteArray → Option Value
  | [], _ => none
  | x :: r, k => if x.key = k then some (.pointer (some ⟨x.g, 0, none⟩)) else mf r k
theorem mf_none {E : List (Ent α)} {k : ByteArray} (h : ∀ x ∈ E, x.key ≠ k) : mf E k = none := by
  induction E with
  | nil => rfl
  | cons p r ih =>
    unfold mf
    rw [if_neg (h p (by simp))]
    exact ih (fun x hx => h x (by simp [hx]))
theorem mf_mem {E : List (Ent α)} (hn : (E.map Ent.key).Nodup) {x : Ent α} (h : x ∈ E) : mf E x.key = some (.pointer (some ⟨x.g, 0, none⟩)) := by
  induction E with
  | nil => simp at h
  | cons p r ih =>
    unfold mf
    rw [List.map_cons, List.nodup_cons] at hn
    rcases List.mem_cons.1 h with e | h
    · subst e; rw [if_pos rfl]
    · rw [if_neg, ih hn.2 h]
      intro e
      exact hn.1 (by rw [e]; exact List.mem_map.2 ⟨x, h, rfl⟩)
theorem key_or (E : List (Ent α)) (k : ByteArray) : (∃ (i : Nat) (x : Ent α), E[i]? = some x ∧ x.key = k) ∨ (∀ x ∈ E, x.key ≠ k) := by
  by_cases h : ∃ x ∈ E, x.key = k
  · obtain ⟨x, hx, e⟩ := h
    obtain ⟨i, hi⟩ := List.mem_iff_getElem?.1 hx
    exact .inl ⟨i, x, hi, e⟩
  · exact .inr (fun x hx e => h ⟨x, hx, e⟩)
theorem mf_perm {E E' : List (Ent α)} (hp : E.Perm E') (hn : (E.map Ent.key).Nodup) (k : ByteArray) : mf E k = mf E' k := by
  have hn' : (E'.map Ent.key).Nodup := (hp.map Ent.key).nodup_iff.1 hn
  rcases key_or E k with ⟨i, x, hx, rfl⟩ | h
  · have hm := List.mem_of_getElem? hx
    rw [mf_mem hn hm, mf_mem hn' (hp.mem_iff.1 hm)]
  · rw [mf_none h, mf_none (fun x hx => h x (hp.mem_iff.2 hx))]
theorem mf_cons (x : Ent α) (E : List (Ent α)) (h : ∀ y ∈ E, y.key ≠ x.key) (k : ByteArray) : mf (x :: E) k = if k = x.key then some (.pointer (some ⟨x.g, 0, none⟩)) else mf E k := by
  conv => lhs; unfold mf
  by_cases e : k = x.key
  · rw [if_pos e.symm, if_pos e]
  · rw [if_neg (Ne.symm e), if_neg e]
theorem mf_set {E : List (Ent α)} {i : Nat} {x : Ent α} (hx : E[i]? = some x) (v : α) (k : ByteArray) : mf (E.set i { x with v := v }) k = mf E k := by
  induction E generalizing i with
  | nil => simp at hx
  | cons p r ih =>
    cases i with
    | zero => simp at hx; subst hx; rfl
    | succ i =>
      rw [List.set_cons_succ]
      unfold mf
      rw [ih (by simpa using hx)]
theorem perm_erase {β : Type} {L : List β} {k : Nat} {x : β} (h : L[k]? = some x) : (x :: L.eraseIdx k).Perm L := by
  induction L generalizing k with
  | nil => simp at h
  | cons y r ih =>
    cases k with
    | zero => simp at h; subst h; exact List.Perm.refl _
    | succ k =>
      rw [List.eraseIdx_cons_succ]
      exact (List.Perm.swap y x _).trans ((ih (by simpa using h)).cons y)
theorem mf_erase {E : List (Ent α)} (hn : (E.map Ent.key).Nodup) {i : Nat} {x : Ent α} (h : E[i]? = some x) (k : ByteArray) : mf (E.eraseIdx i) k = if k = x.key then none else mf E k := by
  have hp := perm_erase h
  have hn2 : ((x :: E.eraseIdx i).map Ent.key).Nodup := (hp.map Ent.key).nodup_iff.2 hn
  have hno : ∀ y ∈ E.eraseIdx i, y.key ≠ x.key := fun y hy e => by
    rw [List.map_cons, List.nodup_cons] at hn2
    exact hn2.1 (by rw [← e]; exact List.mem_map.2 ⟨y, hy, rfl⟩)
  rw [← mf_perm hp hn2 k, mf_cons x _ hno]
  by_cases e : k = x.key
  · rw [if_pos e]
    exact e ▸ mf_none hno
  · rw [if_neg e, if_neg e]

/-- A table's blocks. -/
def tF (ty : TypeId) (t c m : Nat) (E : List (Ent α)) : List Nat := t :: m :: (cF c (lks ty E) ++ E.map Ent.e)
structure Tab (ty : TypeId) (vc : α → List Value) (B : Nat) (w : World) (t : Nat) (room : Int) (c m : Nat) (E : List (Ent α)) : Prop where
  box : Cel w t [.int .i64 room, .pointer (some ⟨c, 0, none⟩), .map (some m)]
  ch : Cha w c (lks ty E)
  map : MapF (strK 9) w m (mf E) E.length
  ents : ∀ x ∈ E, Cel w x.e (.string x.key :: vc x.v)
  nb : (tF ty t c m E).Nodup
  low : ∀ b ∈ tF ty t c m E, B ≤ b ∧ b < w.heap.size
  keys : (E.map Ent.key).Nodup

namespace Tab
variable {ty : TypeId} {vc : α → List Value} {B : Nat} {w w' : World} {t : Nat} {room : Int} {c m : Nat} {E : List (Ent α)}
theorem upd {F : List Nat} (h : Tab ty vc B w t room c m E) (hu : Upd F w w') (hF : ∀ b ∈ tF ty t c m E, b ∉ F) : Tab ty vc B w' t room c m E where
  box := h.box.upd hu (hF t (by simp [tF]))
  ch := h.ch.upd hu (fun b hb => hF b (by simp [tF, hb]))
  map := h.map.upd hu (hF m (by simp [tF]))
  ents := fun x hx => (h.ents x hx).upd hu (hF x.e (by
    unfold tF
    exact List.mem_cons_of_mem _ (List.mem_cons_of_mem _ (List.mem_append.2 (.inr (List.mem_map.2 ⟨x, hx, rfl⟩))))))
  nb := h.nb
  low := fun b hb => ⟨(h.low b hb).1, Nat.lt_of_lt_of_le (h.low b hb).2 hu.size⟩
  keys := h.keys
theorem below (h : Tab ty vc B w t room c m E) (hb : Below w.heap.size w w') : Tab ty vc B w' t room c m E := h.upd (Upd.ofBelow [] hb) (by simp)
theorem inC (h : Tab ty vc B w t room c m E) {b : Nat} (hb : b ∈ cF c (lks ty E)) : b ∈ tF ty t c m E := by simp [tF, hb]
theorem inE (h : Tab ty vc B w t room c m E) {x : Ent α} (hx : x ∈ E) : x.e ∈ tF ty t c m E := by
  unfold tF
  exact List.mem_cons_of_mem _ (List.mem_cons_of_mem _ (List.mem_append.2 (.inr (List.mem_map.2 ⟨x, hx, rfl⟩))))
/-- Apart: the table, its map, its chain, its things. -/
theorem parts (h : Tab ty vc B w t room c m E) : t ≠ m ∧ t ∉ cF c (lks ty E) ∧ (∀ x ∈ E, x.e ≠ t) ∧ m ∉ cF c (lks ty E) ∧ (∀ x ∈ E, x.e ≠ m) ∧ (∀ x ∈ E, x.e ∉ cF c (lks ty E)) ∧ (E.map Ent.e).Nodup := by
  have hn := h.nb
  unfold tF at hn
  rw [List.nodup_cons, List.nodup_cons, List.nodup_append] at hn
  obtain ⟨h1, h2, h3, h4, h5⟩ := hn
  simp only [List.mem_cons, List.mem_append, not_or] at h1 h2
  refine ⟨h1.1, h1.2.1, fun x hx e => h1.2.2 (e ▸ List.mem_map.2 ⟨x, hx, rfl⟩), h2.1, fun x hx e => h2.2 (e ▸ List.mem_map.2 ⟨x, hx, rfl⟩), fun x hx hin => h5 _ hin _ (List.mem_map.2 ⟨x, hx, rfl⟩) rfl, h4⟩
theorem at_lk (h : Tab ty vc B w t room c m E) {k : Nat} {x : Ent α} (hk : E[k]? = some x) : (lks ty E)[k]? = some (x.lk ty) := by unfold lks; rw [List.getElem?_map, hk]; rfl
theorem node (h : Tab ty vc B w t room c m E) {k : Nat} {x : Ent α} (hk : E[k]? = some x) : Cel w x.g [.iface ty (.pointer (some ⟨x.e, 0, none⟩)), pv (lks ty E) k, nx (lks ty E) k] := h.ch.ch k x.g _ (h.at_lk hk)

/-- The chain in another order. -/
theorem chain {E' : List (Ent α)} (h : Tab ty vc B w t room c m E) (hu : Upd (cF c (lks ty E)) w w') (hp : E'.Perm E) (hC : Cha w' c (lks ty E')) : Tab ty vc B w' t room c m E' := by
  obtain ⟨p1, p2, p3, p4, p5, p6, p7⟩ := h.parts
  have hpl : (lks ty E').Perm (lks ty E) := hp.map _
  have hpF : (tF ty t c m E').Perm (tF ty t c m E) := ((((hpl.map (fun p : Lk => p.1)).cons c).append (hp.map Ent.e)).cons m).cons t
  refine ⟨h.box.upd hu p2, hC, ?_, fun x hx => ?_, hpF.nodup_iff.2 h.nb, fun b hb => ?_, (hp.map Ent.key).nodup_iff.2 h.keys⟩
  · have := h.map.upd hu p4
    rw [hp.length_eq]
    exact this.congr (fun k => mf_perm hp.symm h.keys k)
  · have hx' := hp.mem_iff.1 hx
    exact (h.ents x hx').upd hu (p6 x hx')
  · have := h.low b (hpF.mem_iff.1 hb)
    exact ⟨this.1, Nat.lt_of_lt_of_le this.2 hu.size⟩
/-- A thing is another. -/
theorem store (h : Tab ty vc B w t room c m E) {k : Nat} {x : Ent α} (hk : E[k]? = some x) (v : α) (hu : Upd [x.e] w w') (hC : Cel w' x.e (.string x.key :: vc v)) : Tab ty vc B w' t room c m (E.set k { x with v := v }) := by
  obtain ⟨p1, p2, p3, p4, p5, p6, p7⟩ := h.parts
  have hx := List.mem_of_getElem? hk
  have hkl := (List.getElem?_eq_some_iff.1 hk).1
  have e1 : lks ty (E.set k { x with v := v }) = lks ty E := by
    unfold lks
    rw [List.map_set]
    refine List.ext_getElem? (fun i => ?_)
    rw [List.getElem?_set]
    split
    · rename_i hki
      subst hki
      rw [List.getElem?_map, hk]
      simp [hkl, Ent.lk]
    · rfl
  have e2 : (E.set k { x with v := v }).map Ent.e = E.map Ent.e := by
    rw [List.map_set]
    refine List.ext_getElem? (fun i => ?_)
    rw [List.getElem?_set]
    split
    · rename_i hki
      subst hki
      rw [List.getElem?_map, hk]
      simp [hkl]
    · rfl
  have e3 : (E.set k { x with v := v }).map Ent.key = E.map Ent.key := by
    rw [List.map_set]
    refine List.ext_getElem? (fun i => ?_)
    rw [List.getElem?_set]
    split
    · rename_i hki
      subst hki
      rw [List.getElem?_map, hk]
      simp [hkl]
    · rfl
  have eF : tF ty t c m (E.set k { x with v := v }) = tF ty t c m E := by unfold tF; rw [e1, e2]
  refine ⟨h.box.upd hu (by simp; exact fun e => p3 x hx e.symm), ?_, ?_, fun y hy => ?_, by rw [eF]; exact h.nb, fun b hb => ?_, by rw [e3]; exact h.keys⟩
  · rw [e1]
    exact h.ch.upd hu (fun b hb => by simp; intro e; exact p6 x hx (e ▸ hb))
  · rw [List.length_set]
    exact (h.map.upd hu (by simp; exact fun e => p5 x hx e.symm)).congr (fun q => (mf_set hk v q).symm)
  · obtain ⟨i, hi⟩ := List.mem_iff_getElem?.1 hy
    rw [List.getElem?_set] at hi
    split at hi
    · rename_i hki
      subst hki
      simp at hi
      obtain ⟨_, rfl⟩ := hi
      exact hC
    · rename_i hki
      have hy2 := List.mem_of_getElem? hi
      refine (h.ents y hy2).upd hu ?_
      simp
      intro e
      have a1 : (E.map Ent.e)[i]? = some y.e := by rw [List.getElem?_map, hi]; rfl
      have a2 : (E.map Ent.e)[k]? = some x.e := by rw [List.getElem?_map, hk]; rfl
      rw [← e, ← a1] at a2
      exact hki ((List.getElem?_inj (by rw [List.length_map]; exact hkl) p7).1 a2)
  · rw [eF] at hb
    exact ⟨(h.low b hb).1, Nat.lt_of_lt_of_le (h.low b hb).2 hu.size⟩
/-- A thing is gone. -/
theorem erase {W1 : World} (h : Tab ty vc B w t room c m E) {k : Nat} {x : Ent α} (hk : E[k]? = some x) (hu : Upd (cF c (lks ty E)) w W1) (hC : Cha W1 c (lks ty (E.eraseIdx k))) (hm : Upd [m] W1 w') (hM : MapF (strK 9) w' m (fun q => if q = x.key then none else mf E q) (E.length - 1)) :
    Tab ty vc B w' t room c m (E.eraseIdx k) := by
  obtain ⟨p1, p2, p3, p4, p5, p6, p7⟩ := h.parts
  have hkl := (List.getElem?_eq_some_iff.1 hk).1
  have hs : (E.eraseIdx k).Sublist E := List.eraseIdx_sublist E k
  have hsF : (tF ty t c m (E.eraseIdx k)).Sublist (tF ty t c m E) :=
    List.Sublist.cons_cons t (List.Sublist.cons_cons m ((List.Sublist.cons_cons c ((hs.map (Ent.lk ty)).map (fun p : Lk => p.1))).append (hs.map Ent.e)))
  have hsz := Nat.le_trans hu.size hm.size
  refine ⟨(h.box.upd hu p2).upd hm (by simpa using p1), hC.upd hm (fun b hb => ?_), ?_, fun y hy => ?_, h.nb.sublist hsF, fun b hb => ?_, h.keys.sublist (hs.map _)⟩
  · simp
    intro e
    subst e
    refine p4 ((List.Sublist.cons_cons c ((hs.map (Ent.lk ty)).map (fun p : Lk => p.1))).subset hb)
  · rw [List.length_eraseIdx_of_lt hkl]
    exact hM.congr (fun q => (mf_erase h.keys hk q).symm)
  · have hy2 := hs.subset hy
    exact ((h.ents y hy2).upd hu (p6 y hy2)).upd hm (by simpa using p5 y hy2)
  · have := h.low b (hsF.subset hb)
    exact ⟨this.1, Nat.lt_of_lt_of_le this.2 hsz⟩
/-- A thing more. -/
theorem push {W1 W2 : World} (h : Tab ty vc B w t room c m E) (x : Ent α) (hno : ∀ y ∈ E, y.key ≠ x.key) (h1 : Below w.heap.size w W1) (he : w.heap.size ≤ x.e) (he2 : x.e < W1.heap.size) (hce : Cel W1 x.e (.string x.key :: vc x.v)) (hu : Upd (cF c (lks ty E)) W1 W2) (hg : W1.heap.size ≤ x.g) (hg2 : x.g < W2.heap.size)
    (hC : Cha W2 c (lks ty (x :: E))) (hm : Upd [m] W2 w') (hM : MapF (strK 9) w' m (fun q => if q = x.key then some (.pointer (some ⟨x.g, 0, none⟩)) else mf E q) (E.length + 1)) (hB : B ≤ w.heap.size) :
    Tab ty vc B w' t room c m (x :: E) := by
  obtain ⟨p1, p2, p3, p4, p5, p6, p7⟩ := h.parts
  have hlt : ∀ b ∈ tF ty t c m E, b < w.heap.size := fun b hb => (h.low b hb).2
  have hs1 := h1.size
  have hs2 := hu.size
  have hs3 := hm.size
  have hmlt : m < w.heap.size := hlt m (by simp [tF])
  have hperm : (tF ty t c m (x :: E)).Perm (x.g :: x.e :: tF ty t c m E) := by
    unfold tF lks cF blocks
    simp only [List.map_cons, Ent.lk]
    refine List.perm_iff_count.2 (fun a => ?_)
    simp only [List.count_cons, List.count_append]
    omega
  refine ⟨((h.box.below h1).upd hu p2).upd hm (by simpa using p1), hC.upd hm (fun b hb => ?_), ?_, fun y hy => ?_, ?_, fun b hb => ?_, ?_⟩
  · simp
    intro e
    subst e
    unfold lks cF blocks at hb
    simp only [List.map_cons, List.mem_cons, Ent.lk] at hb
    rcases hb with e | e | hb
    · exact p4 (by simp [cF, e])
    · omega
    · exact p4 (by unfold cF blocks lks; exact List.mem_cons_of_mem _ hb)
  · rw [List.length_cons]
    exact hM.congr (fun q => (mf_cons x E hno q).symm)
  · rcases List.mem_cons.1 hy with e | hy
    · subst e
      exact (hce.upd hu (fun hin => by have := hlt _ (h.inC hin); omega)).upd hm (by simp; omega)
    · exact (((h.ents y hy).below h1).upd hu (p6 y hy)).upd hm (by simpa using p5 y hy)
  · rw [hperm.nodup_iff, List.nodup_cons, List.nodup_cons]
    refine ⟨fun hin => ?_, fun hin => ?_, h.nb⟩
    · rcases List.mem_cons.1 hin with e | hin
      · omega
      · have := hlt _ hin; omega
    · have := hlt _ hin; omega
  · have hb2 := hperm.mem_iff.1 hb
    rcases List.mem_cons.1 hb2 with e | hb2
    · omega
    · rcases List.mem_cons.1 hb2 with e | hb2
      · omega
      · have := h.low b hb2; omega
  · rw [List.map_cons, List.nodup_cons]
    refine ⟨fun hin => ?_, h.keys⟩
    obtain ⟨y, hy, e⟩ := List.mem_map.1 hin
    exact hno y hy e
end Tab
end

end Go.Proofs.Yteifjlhkfmoljaa
