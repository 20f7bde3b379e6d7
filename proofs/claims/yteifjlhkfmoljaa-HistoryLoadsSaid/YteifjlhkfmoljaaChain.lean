/- Chains in memory, and what is done to them. -/
import Derived.Test.YteifjlhkfmoljaaCel
import Derived.Test.YteifjlhkfmoljaaMix
import Derived.Deep.CutRange
import Derived.Deep.DeepCutAuto
import Derived.Deep.CutBlock
set_option linter.unusedVariables false
namespace Go.Proofs.Yteifjlhkfmoljaa
open Go.RowKit

/-- A link's block, and what it holds. -/
abbrev Lk := Nat × Value
def ptr (o : Option Lk) : Value := .pointer (o.map fun p => ⟨p.1, 0, none⟩)
def pv (G : List Lk) : Nat → Value
  | 0 => .pointer none
  | i + 1 => ptr G[i]?
def nx (G : List Lk) (i : Nat) : Value := ptr G[i + 1]?
def blocks (G : List Lk) : List Nat := G.map (·.1)
def Ch (w : World) (G : List Lk) (A B : Nat → Value) : Prop := ∀ i g v, G[i]? = some (g, v) → Cel w g [v, A i, B i]
/-- A chain's blocks. -/
def cF (c : Nat) (G : List Lk) : List Nat := c :: blocks G

section
variable {w w' : World} {G : List Lk} {A B : Nat → Value} {c : Nat}
theorem mem_blocks {i g : Nat} {v : Value} (h : G[i]? = some (g, v)) : g ∈ blocks G := List.mem_map.2 ⟨_, List.mem_of_getElem? h, rfl⟩
theorem Ch.upd {F : List Nat} (h : Ch w G A B) (hu : Upd F w w') (hF : ∀ g ∈ blocks G, g ∉ F) : Ch w' G A B := fun i g x hx => (h i g x hx).upd hu (hF g (mem_blocks hx))
theorem Ch.congr {A' B' : Nat → Value} (h : Ch w G A B) (hA : ∀ i, i < G.length → A i = A' i) (hB : ∀ i, i < G.length → B i = B' i) : Ch w G A' B' := fun i g x hx => by
  have hi := (List.getElem?_eq_some_iff.1 hx).1
  rw [← hA i hi, ← hB i hi]
  exact h i g x hx
theorem nodup_at (hn : (blocks G).Nodup) {i j g : Nat} {x y : Value} (hi : G[i]? = some (g, x)) (hj : G[j]? = some (g, y)) : i = j := by
  have h1 : (blocks G)[i]? = some g := by unfold blocks; rw [List.getElem?_map, hi]; rfl
  have h2 : (blocks G)[j]? = some g := by unfold blocks; rw [List.getElem?_map, hj]; rfl
  have hl := (List.getElem?_eq_some_iff.1 h1).1
  exact (List.getElem?_inj hl hn).1 (h1.trans h2.symm)
theorem Ch.setA (h : Ch w G A B) (hn : (blocks G).Nodup) {k g : Nat} {x : Value} (hk : G[k]? = some (g, x)) (v : Value) : Ch (w.setCell ⟨g, 1, none⟩ v) G (fun i => if i = k then v else A i) B := fun i g' y hi => by
  dsimp only
  by_cases e : i = k
  · subst e
    rw [hk] at hi
    cases hi
    rw [if_pos rfl]
    exact (h i g x hk).set 1 v
  · rw [if_neg e]
    exact (h i g' y hi).far (fun e2 => e (by subst e2; exact nodup_at hn hi hk)) v
theorem Ch.setB (h : Ch w G A B) (hn : (blocks G).Nodup) {k g : Nat} {x : Value} (hk : G[k]? = some (g, x)) (v : Value) : Ch (w.setCell ⟨g, 2, none⟩ v) G A (fun i => if i = k then v else B i) := fun i g' y hi => by
  dsimp only
  by_cases e : i = k
  · subst e
    rw [hk] at hi
    cases hi
    rw [if_pos rfl]
    exact (h i g x hk).set 2 v
  · rw [if_neg e]
    exact (h i g' y hi).far (fun e2 => e (by subst e2; exact nodup_at hn hi hk)) v
theorem erase_at (G : List Lk) (k i : Nat) : (G.eraseIdx k)[i]? = G[if i < k then i else i + 1]? := by
  rw [List.getElem?_eraseIdx]
  split <;> rfl
theorem Ch.erase (h : Ch w G A B) (k : Nat) : Ch w (G.eraseIdx k) (fun i => A (if i < k then i else i + 1)) (fun i => B (if i < k then i else i + 1)) := fun i g x hi => by
  rw [erase_at] at hi
  exact h _ g x hi
theorem Ch.cons (h : Ch w G A B) {g : Nat} {x a b : Value} (hg : Cel w g [x, a, b]) : Ch w ((g, x) :: G) (fun i => if i = 0 then a else A (i - 1)) (fun i => if i = 0 then b else B (i - 1)) := fun i g' y hi => by
  dsimp only
  cases i with
  | zero => simp at hi; obtain ⟨rfl, rfl⟩ := hi; rw [if_pos rfl, if_pos rfl]; exact hg
  | succ i => rw [if_neg (by omega), if_neg (by omega)]; exact h i g' y (by simpa using hi)

/-- What the links point to, once one is taken out. -/
theorem drop_pv {k : Nat} (hk : k < G.length) (i : Nat) (hi : i < (G.eraseIdx k).length) :
    (fun i => (fun i => if i = k + 1 then pv G k else pv G i) (if i < k then i else i + 1)) i = pv (G.eraseIdx k) i := by
  dsimp only
  rw [List.length_eraseIdx_of_lt hk] at hi
  by_cases h1 : i < k
  · rw [if_pos h1, if_neg (by omega)]
    cases i with
    | zero => rfl
    | succ j => show ptr G[j]? = ptr (G.eraseIdx k)[j]?; rw [erase_at, if_pos (by omega)]
  · rw [if_neg h1]
    by_cases h2 : i = k
    · subst h2
      rw [if_pos rfl]
      cases i with
      | zero => rfl
      | succ j => show ptr G[j]? = ptr (G.eraseIdx (j + 1))[j]?; rw [erase_at, if_pos (by omega)]
    · rw [if_neg (by omega)]
      cases i with
      | zero => omega
      | succ j => show ptr G[j + 1]? = ptr (G.eraseIdx k)[j]?; rw [erase_at, if_neg (by omega)]
theorem drop_nx {k : Nat} (hk : k < G.length) (i : Nat) (hi : i < (G.eraseIdx k).length) :
    (fun i => (fun i => if i + 1 = k then nx G k else nx G i) (if i < k then i else i + 1)) i = nx (G.eraseIdx k) i := by
  dsimp only
  unfold nx
  rw [erase_at]
  by_cases h1 : i < k
  · rw [if_pos h1]
    by_cases h2 : i + 1 = k
    · rw [if_pos h2, if_neg (by omega), h2]
    · rw [if_neg h2, if_pos (by omega)]
  · rw [if_neg h1, if_neg (by omega), if_neg (by omega)]
/-- .. once one is laid ahead of all. -/
theorem lay_pv (p : Lk) (i : Nat) (hi : i < (p :: G).length) : (fun i => if i = 0 then .pointer none else (fun i => if i = 0 then ptr (some p) else pv G i) (i - 1)) i = pv (p :: G) i := by
  dsimp only
  cases i with
  | zero => rfl
  | succ i =>
    rw [if_neg (by omega), Nat.add_sub_cancel]
    cases i with
    | zero => rfl
    | succ i => rw [if_neg (by omega)]; rfl
theorem lay_nx (p : Lk) (i : Nat) (hi : i < (p :: G).length) : (fun i => if i = 0 then ptr G[0]? else nx G (i - 1)) i = nx (p :: G) i := by
  dsimp only
  cases i with
  | zero => rfl
  | succ i => rw [if_neg (by omega), Nat.add_sub_cancel]; rfl
end

/-- A chain half-way through a call. -/
structure Mid (F : List Nat) (w0 w : World) (c : Nat) (G : List Lk) (f l : Value) (A E : Nat → Value) : Prop where
  box : Cel w c [f, l]
  ch : Ch w G A E
  hu : Upd F w0 w
/-- A chain. -/
structure Cha (w : World) (c : Nat) (G : List Lk) : Prop where
  box : Cel w c [ptr G[0]?, ptr G[G.length - 1]?]
  ch : Ch w G (pv G) (nx G)
  nb : (cF c G).Nodup
theorem Cha.upd {F : List Nat} {w w' : World} {c : Nat} {G : List Lk} (h : Cha w c G) (hu : Upd F w w') (hF : ∀ b ∈ cF c G, b ∉ F) : Cha w' c G :=
  ⟨h.box.upd hu (hF c (by simp [cF])), h.ch.upd hu (fun g hg => hF g (by simp [cF, hg])), h.nb⟩
theorem Cha.below {w w' : World} {c : Nat} {G : List Lk} (h : Cha w c G) (hb : Below w.heap.size w w') : Cha w' c G := h.upd (Upd.ofBelow [] hb) (by simp)

namespace Mid
variable {F : List Nat} {w0 w w' : World} {c : Nat} {G : List Lk} {f l : Value} {A E : Nat → Value}
theorem below (h : Mid F w0 w c G f l A E) (hb : Below w.heap.size w w') : Mid F w0 w' c G f l A E :=
  ⟨h.box.below hb, h.ch.upd (Upd.ofBelow [] hb) (by simp), h.hu.trans (Upd.ofBelow _ hb)⟩
theorem outs (hn : (cF c G).Nodup) : c ∉ blocks G ∧ (blocks G).Nodup := by unfold cF at hn; exact List.nodup_cons.1 hn
theorem at1 (h : Mid F w0 w c G f l A E) (hn : (cF c G).Nodup) (o : Nat) (v : Value) : Ch (w.setCell ⟨c, o, none⟩ v) G A E :=
  h.ch.upd (F := [c]) ((Upd.refl _ _).setCell (by simp) v) (fun g hg => by simp; intro e; exact (outs hn).1 (e ▸ hg))
theorem first (h : Mid F w0 w c G f l A E) (hn : (cF c G).Nodup) (hF : c ∈ F) (v : Value) : Mid F w0 (w.setCell ⟨c, 0, none⟩ v) c G v l A E :=
  ⟨h.box.set 0 v, h.at1 hn 0 v, h.hu.setCell hF v⟩
theorem last (h : Mid F w0 w c G f l A E) (hn : (cF c G).Nodup) (hF : c ∈ F) (v : Value) : Mid F w0 (w.setCell ⟨c, 1, none⟩ v) c G f v A E :=
  ⟨h.box.set 1 v, h.at1 hn 1 v, h.hu.setCell hF v⟩
theorem ahead (h : Mid F w0 w c G f l A E) (hn : (cF c G).Nodup) {k g : Nat} {x : Value} (hk : G[k]? = some (g, x)) (hF : g ∈ F) (v : Value) :
    Mid F w0 (w.setCell ⟨g, 1, none⟩ v) c G f l (fun i => if i = k then v else A i) E :=
  ⟨h.box.far (fun e => (outs hn).1 (e ▸ mem_blocks hk)) v, h.ch.setA (outs hn).2 hk v, h.hu.setCell hF v⟩
theorem behind (h : Mid F w0 w c G f l A E) (hn : (cF c G).Nodup) {k g : Nat} {x : Value} (hk : G[k]? = some (g, x)) (hF : g ∈ F) (v : Value) :
    Mid F w0 (w.setCell ⟨g, 2, none⟩ v) c G f l A (fun i => if i = k then v else E i) :=
  ⟨h.box.far (fun e => (outs hn).1 (e ▸ mem_blocks hk)) v, h.ch.setB (outs hn).2 hk v, h.hu.setCell hF v⟩
theorem congr {f' l' : Value} {A' E' : Nat → Value} (h : Mid F w0 w c G f l A E) (hf : f = f') (hl : l = l') (hA : ∀ i, i < G.length → A i = A' i) (hE : ∀ i, i < G.length → E i = E' i) : Mid F w0 w c G f' l' A' E' := by
  subst hf; subst hl
  exact ⟨h.box, h.ch.congr hA hE, h.hu⟩
end Mid

/-! ### a link is taken out -/
def M1 (F : List Nat) (w0 : World) (c : Nat) (G : List Lk) (k : Nat) (w : World) : Prop :=
  Mid F w0 w c G (if k = 0 then nx G k else ptr G[0]?) (ptr G[G.length - 1]?) (pv G) (fun i => if i + 1 = k then nx G k else nx G i)
def M2 (F : List Nat) (w0 : World) (c : Nat) (G : List Lk) (k : Nat) (w : World) : Prop :=
  Mid F w0 w c G (if k = 0 then nx G k else ptr G[0]?) (if k + 1 = G.length then pv G k else ptr G[G.length - 1]?) (fun i => if i = k + 1 then pv G k else pv G i) (fun i => if i + 1 = k then nx G k else nx G i)
section
variable {F : List Nat} {w0 w : World} {c k g : Nat} {x : Value} {G : List Lk}
theorem m1_first (h : Mid F w0 w c G (ptr G[0]?) (ptr G[G.length - 1]?) (pv G) (nx G)) (hn : (cF c G).Nodup) (hF : c ∈ F) (hk : k = 0) (v : Value) (hv : nx G k = v) :
    M1 F w0 c G k (w.setCell ⟨c, 0, none⟩ v) := by
  subst hk; subst hv
  exact (h.first hn hF _).congr (by rw [if_pos rfl]) rfl (fun _ _ => rfl) (fun i _ => by rw [if_neg (by omega)])
theorem m1_next (h : Mid F w0 w c G (ptr G[0]?) (ptr G[G.length - 1]?) (pv G) (nx G)) (hn : (cF c G).Nodup) {j ga : Nat} {xa : Value} (hk : k = j + 1) (hj : G[j]? = some (ga, xa)) (hF : ga ∈ F) (v : Value) (hv : nx G k = v) :
    M1 F w0 c G k (w.setCell ⟨ga, 2, none⟩ v) := by
  subst hk; subst hv
  refine (h.behind hn hj hF _).congr (by rw [if_neg (by omega)]) rfl (fun _ _ => rfl) (fun i _ => ?_)
  by_cases e : i = j
  · rw [if_pos e, if_pos (by omega)]
  · rw [if_neg e, if_neg (by omega)]
theorem m2_last (h : M1 F w0 c G k w) (hn : (cF c G).Nodup) (hF : c ∈ F) (hk : k + 1 = G.length) (v : Value) (hv : pv G k = v) :
    M2 F w0 c G k (w.setCell ⟨c, 1, none⟩ v) := by
  subst hv
  exact (Mid.last h hn hF _).congr rfl (by rw [if_pos hk]) (fun i hi => by rw [if_neg (by omega)]) (fun _ _ => rfl)
theorem m2_next (h : M1 F w0 c G k w) (hn : (cF c G).Nodup) {gb : Nat} {xb : Value} (hj : G[k + 1]? = some (gb, xb)) (hF : gb ∈ F) (v : Value) (hv : pv G k = v) :
    M2 F w0 c G k (w.setCell ⟨gb, 1, none⟩ v) := by
  subst hv
  have hl : k + 1 < G.length := (List.getElem?_eq_some_iff.1 hj).1
  exact (Mid.ahead h hn hj hF _).congr rfl (by rw [if_neg (by omega)]) (fun i hi => rfl) (fun _ _ => rfl)
theorem M1.node (h : M1 F w0 c G k w) (hk : G[k]? = some (g, x)) : Cel w g [x, pv G k, nx G k] := by
  have := h.ch k g x hk
  rwa [if_neg (by omega)] at this
theorem M2.node (h : M2 F w0 c G k w) (hk : G[k]? = some (g, x)) : Cel w g [x, pv G k, nx G k] := by
  have := h.ch k g x hk
  rwa [if_neg (by omega), if_neg (by omega)] at this
theorem cF_erase (c : Nat) (G : List Lk) (k : Nat) : (cF c (G.eraseIdx k)).Sublist (cF c G) := List.Sublist.cons_cons c ((List.eraseIdx_sublist G k).map _)
theorem m2_cha (hn : (cF c G).Nodup) (hk : G[k]? = some (g, x)) (h : M2 F w0 c G k w) : Cha w c (G.eraseIdx k) := by
  have hkl : k < G.length := (List.getElem?_eq_some_iff.1 hk).1
  have hlen : (G.eraseIdx k).length = G.length - 1 := List.length_eraseIdx_of_lt hkl
  have e0 : (if k = 0 then nx G k else ptr G[0]?) = ptr (G.eraseIdx k)[0]? := by
    rw [erase_at]
    by_cases e : k = 0
    · rw [if_pos e, if_neg (by omega)]; subst e; rfl
    · rw [if_neg e, if_pos (by omega)]
  have e1 : (if k + 1 = G.length then pv G k else ptr G[G.length - 1]?) = ptr (G.eraseIdx k)[(G.eraseIdx k).length - 1]? := by
    rw [hlen]
    by_cases e : k + 1 = G.length
    · rw [if_pos e]
      cases k with
      | zero =>
        rw [erase_at, if_neg (by omega), List.getElem?_eq_none (by omega)]; rfl
      | succ j =>
        rw [erase_at, if_pos (by omega), show G.length - 1 - 1 = j by omega]; rfl
    · rw [if_neg e, erase_at, if_neg (by omega), show G.length - 1 - 1 + 1 = G.length - 1 by omega]
  refine ⟨?_, (h.ch.erase k).congr (fun i hi => drop_pv hkl i hi) (fun i hi => drop_nx hkl i hi), hn.sublist (cF_erase c G k)⟩
  have hb := h.box
  rwa [e0, e1] at hb
theorem not_erased (hn : (cF c G).Nodup) (hk : G[k]? = some (g, x)) : g ∉ cF c (G.eraseIdx k) := by
  intro hin
  obtain ⟨h1, h2⟩ := Mid.outs hn
  unfold cF at hin
  rcases List.mem_cons.1 hin with e | hin
  · exact h1 (e ▸ mem_blocks hk)
  · obtain ⟨⟨g2, y⟩, hq, e⟩ := List.mem_map.1 hin
    obtain ⟨i, hi⟩ := List.mem_iff_getElem?.1 hq
    rw [erase_at] at hi
    simp only at e
    subst e
    have := nodup_at h2 hi hk
    split at this <;> omega
end

set_option maxRecDepth 100000 in
set_option maxHeartbeats 4000000 in
theorem chainDrop_any (w : World) (c : Nat) (G : List Lk) (h : Cha w c G) (k g : Nat) (x : Value) (hk : G[k]? = some (g, x)) :
    Calls Try.prog 47 #[.pointer (some ⟨c, 0, none⟩), .pointer (some ⟨g, 0, none⟩)] w fun e w' => e = .returned (.tuple #[]) ∧ Upd (cF c G) w w' ∧ Cha w' c (G.eraseIdx k) ∧ Cel w' g [x, pv G k, nx G k] := by
  obtain ⟨oa, hoa⟩ : ∃ oa, pv G k = .pointer oa := by cases k with
    | zero => exact ⟨_, rfl⟩
    | succ j => exact ⟨_, rfl⟩
  obtain ⟨on, hon⟩ : ∃ on, nx G k = .pointer on := ⟨_, rfl⟩
  have hkl : k < G.length := (List.getElem?_eq_some_iff.1 hk).1
  have HA := Lib.hid (show (oa = none ∧ k = 0) ∨ ∃ (j ga : Nat) (xa : Value), k = j + 1 ∧ G[j]? = some (ga, xa) ∧ oa = some ⟨ga, 0, none⟩ from by
    cases k with
    | zero => exact .inl ⟨by simpa [pv] using hoa.symm, rfl⟩
    | succ j =>
      obtain ⟨⟨ga, xa⟩, hj⟩ : ∃ q, G[j]? = some q := ⟨_, List.getElem?_eq_getElem (by omega)⟩
      refine .inr ⟨j, ga, xa, rfl, hj, ?_⟩
      have : ptr G[j]? = .pointer oa := hoa
      rw [hj] at this
      simpa [ptr] using this.symm)
  have HB := Lib.hid (show (on = none ∧ k + 1 = G.length) ∨ ∃ (gb : Nat) (xb : Value), G[k + 1]? = some (gb, xb) ∧ on = some ⟨gb, 0, none⟩ from by
    by_cases hl : k + 1 < G.length
    · obtain ⟨⟨gb, xb⟩, hj⟩ : ∃ q, G[k + 1]? = some q := ⟨_, List.getElem?_eq_getElem hl⟩
      refine .inr ⟨gb, xb, hj, ?_⟩
      have : ptr G[k + 1]? = .pointer on := hon
      rw [hj] at this
      simpa [ptr] using this.symm
    · refine .inl ⟨?_, by omega⟩
      have : ptr G[k + 1]? = .pointer on := hon
      rw [List.getElem?_eq_none (by omega)] at this
      simpa [ptr] using this.symm)
  have HM0 := Lib.hid (show Mid (cF c G) w w c G (ptr G[0]?) (ptr G[G.length - 1]?) (pv G) (nx G) from ⟨h.box, h.ch, Upd.refl _ _⟩)
  have HN := Lib.hid h.nb
  have HK := Lib.hid hk
  have hcF : c ∈ cF c G := by simp [cF]
  have HGF := Lib.hid (show ∀ j y z, G[j]? = some (y, z) → y ∈ cF c G from fun j y z hj => by have := mem_blocks hj; simp [cF, this])
  have HOA := Lib.hid hoa
  have HON := Lib.hid hon
  have node := h.ch k g x hk
  rw [hoa, hon] at node
  have c1n := node.get (i := 1) rfl
  have c2n := node.get (i := 2) rfl
  clear h hk hoa hon hkl node
  go_enter Try.func47, Try.ntmps47
  go_upto_if 8 with fail
  go_cut [] (fun wx => M1 (cF c G) w c G k wx)
  case first =>
    rcases HA.out with ⟨rfl, hk0⟩ | ⟨j, ga, xa, hkj, hj, rfl⟩
    · have HK0 := Lib.hid hk0
      have c0 := HM0.out.box.get (i := 0) rfl
      have f0 := HM0.out.box.free (i := 0) rfl
      clear hk0
      go_wp2_with fail
      go_meet
      exact m1_first HM0.out HN.out hcF HK0.out _ HON.out
    · have d1 := fun (z : Later w) => z.cell c1n
      have d2 := fun (z : Later w) => z.cell c2n
      have HJ := Lib.hid hj
      have HKJ := Lib.hid hkj
      have hgaF := HGF.out _ _ _ hj
      clear hj hkj c1n c2n
      go_upto_region 2 with fail
      refine wp_region_later_tail 10 (by kernel_rfl) (by kernel_rfl) (Below.refl _ _) ?_
      simp only [List.take_succ_cons, List.take_zero, List.drop_succ_cons, List.drop_zero]
      repeat (first
        | go_big_quiet_skip
        | (go_big_quiet_want; (go_big_quiet_op; go_big_quiet_on)))
      refine wpQuiet_nil ?_
      rintro ⟨W2, hb2⟩
      dsimp only
      have HM2 := Lib.hid (HM0.out.below hb2)
      have nf := (HM2.out.ch _ _ _ HJ.out).free (i := 2) rfl
      have nc := (HM2.out.ch _ _ _ HJ.out).get (i := 2) rfl
      clear d1 d2
      go_wp2_with fail
      go_meet
      exact m1_next HM2.out HN.out HKJ.out HJ.out hgaF _ HON.out
  case rest =>
    clear c1n c2n
    have node := hcut.node HK.out
    rw [HOA.out, HON.out] at node
    have c1n := node.get (i := 1) rfl
    have c2n := node.get (i := 2) rfl
    have HM2 := Lib.hid hcut
    clear node hcut
    have fin := Lib.hid (show ∀ W : World, M2 (cF c G) w c G k W → Upd (cF c G) w W ∧ Cha W c (G.eraseIdx k) ∧ Cel W g [x, pv G k, nx G k] from fun W hM => ⟨hM.hu, m2_cha HN.out HK.out hM, hM.node HK.out⟩)
    · rcases HB.out with ⟨rfl, hkl⟩ | ⟨gb, xb, hj, rfl⟩
      · have HKL := Lib.hid hkl
        have c1 := HM2.out.box.get (i := 1) rfl
        have f1 := HM2.out.box.free (i := 1) rfl
        clear hkl
        go_wp2_with fail
        go_end0
        exact ⟨rfl, fin.out _ (m2_last HM2.out HN.out hcF HKL.out _ HOA.out)⟩
      · go_upto_if 30 with fail
        have d1 := fun (z : Later wc) => z.cell c1n
        have d2 := fun (z : Later wc) => z.cell c2n
        have HJ := Lib.hid hj
        have hgbF := HGF.out _ _ _ hj
        clear hj c1n c2n
        go_upto_region 5 with fail
        refine wp_region_later_tail 10 (by kernel_rfl) (by kernel_rfl) (Below.refl _ _) ?_
        simp only [List.take_succ_cons, List.take_zero, List.drop_succ_cons, List.drop_zero]
        repeat (first
          | go_big_quiet_skip
          | (go_big_quiet_want; (go_big_quiet_op; go_big_quiet_on)))
        refine wpQuiet_nil ?_
        rintro ⟨W2, hb2⟩
        dsimp only
        have HM3 := Lib.hid (show M1 (cF c G) w c G k W2 from Mid.below HM2.out hb2)
        have nf := (HM3.out.ch _ _ _ HJ.out).free (i := 1) rfl
        have nc := (HM3.out.ch _ _ _ HJ.out).get (i := 1) rfl
        clear d1 d2
        go_wp2_with fail
        go_end0
        exact ⟨rfl, fin.out _ (m2_next HM3.out HN.out HJ.out hgbF _ HOA.out)⟩

/-! ### a link is laid ahead of all -/
theorem lay_fin {F : List Nat} {w1 W : World} {c g : Nat} {x l : Value} {G : List Lk} {A : Nat → Value} (h : Mid F w1 W c G (.pointer (some ⟨g, 0, none⟩)) l A (nx G)) (hl : l = ptr ((g, x) :: G)[((g, x) :: G).length - 1]?) (hA : ∀ i, i < G.length → A i = if i = 0 then ptr (some (g, x)) else pv G i)
    (hg : Cel W g [x, .pointer none, ptr G[0]?]) (hn : g ∉ cF c G) (hnb : (cF c G).Nodup) : Cha W c ((g, x) :: G) := by
  refine ⟨?_, ?_, ?_⟩
  · have := h.box
    rw [hl] at this
    exact this
  · refine (Ch.cons (h.ch.congr hA (fun _ _ => rfl)) hg).congr (fun i hi => ?_) (fun i hi => ?_)
    · exact lay_pv (g, x) i hi
    · exact lay_nx (g, x) i hi
  · unfold cF blocks at *
    rw [List.map_cons, List.nodup_cons, List.nodup_cons]
    rw [List.nodup_cons] at hnb
    simp only [List.mem_cons, not_or] at hn ⊢
    exact ⟨⟨Ne.symm hn.1, hnb.1⟩, hn.2, hnb.2⟩
set_option maxRecDepth 100000 in
theorem chainLay_any (w : World) (c : Nat) (G : List Lk) (h : Cha w c G) (g : Nat) (x a b : Value) (hg : Cel w g [x, a, b]) (hn : g ∉ cF c G) :
    Calls Try.prog 48 #[.pointer (some ⟨c, 0, none⟩), .pointer (some ⟨g, 0, none⟩)] w fun e w' => e = .returned (.tuple #[]) ∧ Upd (g :: cF c G) w w' ∧ Cha w' c ((g, x) :: G) := by
  obtain ⟨o0, ho0⟩ : ∃ o, ptr G[0]? = .pointer o := ⟨_, rfl⟩
  have hcg : c ≠ g := fun e => hn (by simp [cF, e])
  have hgb : g ∉ blocks G := fun e => hn (by simp [cF, e])
  -- behind the link's own two stores
  have hC1 := (hg.set 1 (.pointer none)).set 2 (ptr G[0]?)
  have hu1 : Upd [g] w ((w.setCell ⟨g, 1, none⟩ (.pointer none)).setCell ⟨g, 2, none⟩ (ptr G[0]?)) := ((Upd.refl _ _).setCell (by simp) _).setCell (by simp) _
  have hM1 : Mid (cF c G) ((w.setCell ⟨g, 1, none⟩ (.pointer none)).setCell ⟨g, 2, none⟩ (ptr G[0]?)) ((w.setCell ⟨g, 1, none⟩ (.pointer none)).setCell ⟨g, 2, none⟩ (ptr G[0]?)) c G (ptr G[0]?) (ptr G[G.length - 1]?) (pv G) (nx G) :=
    ⟨h.box.upd hu1 (by simpa using hcg), h.ch.upd hu1 (fun i hi => by simp; intro e; exact hgb (e ▸ hi)), Upd.refl _ _⟩
  have c0 := h.box.get (i := 0) rfl
  have g1c := hg.get (i := 1) rfl
  have g1f := hg.free (i := 1) rfl
  have g2c := ((hg.set 1 (.pointer none))).get (i := 2) rfl
  have g2f := ((hg.set 1 (.pointer none))).free (i := 2) rfl
  rw [ho0] at c0 hC1 hu1 hM1
  have HO := Lib.hid ho0
  have HNB := Lib.hid h.nb
  have hcF : c ∈ cF c G := by simp [cF]
  have HGF := Lib.hid (show ∀ j y z, G[j]? = some (y, z) → y ∈ cF c G from fun j y z hj => by have := mem_blocks hj; simp [cF, this])
  have HE := Lib.hid (show (o0 = none ∧ G = []) ∨ ∃ (gb : Nat) (xb : Value), G[0]? = some (gb, xb) ∧ o0 = some ⟨gb, 0, none⟩ from by
    rcases G with _ | ⟨⟨gb, xb⟩, r⟩
    · exact .inl ⟨by simpa [ptr] using ho0.symm, rfl⟩
    · exact .inr ⟨gb, xb, rfl, by simpa [ptr] using ho0.symm⟩)
  clear h ho0
  go_enter Try.func48, Try.ntmps48
  go_upto_region 1 with fail
  generalize (w.setCell ⟨g, 1, none⟩ (.pointer none)).setCell ⟨g, 2, none⟩ (.pointer o0) = W1 at hC1 hu1 hM1 ⊢
  have HM1 := Lib.hid hM1
  have c01 := hM1.box.get (i := 0) rfl
  clear hM1 c0 g1c g1f g2c g2f
  have HC1 := Lib.hid hC1
  have HU1 := Lib.hid hu1
  clear hC1 hu1 hg
  rcases HE.out with ⟨rfl, rfl⟩ | ⟨gb, xb, hj, rfl⟩
  · have c1 := HM1.out.box.get (i := 1) rfl
    have f1 := HM1.out.box.free (i := 1) rfl
    have c0 := c01
    have f0 := HM1.out.box.free (i := 0) rfl
    go_wp2_with fail
    go_end0
    have HM2 := (HM1.out.last HNB.out hcF (.pointer (some ⟨g, 0, none⟩))).first HNB.out hcF (.pointer (some ⟨g, 0, none⟩))
    have hC2 := (HC1.out.far (p := ⟨c, 1, none⟩) (by simpa using Ne.symm hcg) (.pointer (some ⟨g, 0, none⟩))).far (p := ⟨c, 0, none⟩) (by simpa using Ne.symm hcg) (.pointer (some ⟨g, 0, none⟩))
    exact ⟨rfl, (HU1.out.mono (by simp)).trans (HM2.hu.mono (by intro i hi; simp [hi])), lay_fin HM2 rfl (fun i hi => by simp at hi) hC2 hn HNB.out⟩
  · have nc := (HM1.out.ch _ _ _ hj).get (i := 1) rfl
    have nf := (HM1.out.ch _ _ _ hj).free (i := 1) rfl
    have c0 := c01
    have f0 := HM1.out.box.free (i := 0) rfl
    have HJ := Lib.hid hj
    have hgbc : gb ≠ c := fun e => (Mid.outs HNB.out).1 (e ▸ mem_blocks hj)
    have hgbg : g ≠ gb := fun e => hgb (e ▸ mem_blocks hj)
    clear hj
    go_wp2_with fail
    go_end0
    have HM2 := (HM1.out.ahead HNB.out HJ.out (HGF.out _ _ _ HJ.out) (.pointer (some ⟨g, 0, none⟩))).first HNB.out hcF (.pointer (some ⟨g, 0, none⟩))
    have hC2 := (HC1.out.far (p := ⟨gb, 1, none⟩) (by simpa using hgbg) (.pointer (some ⟨g, 0, none⟩))).far (p := ⟨c, 0, none⟩) (by simpa using Ne.symm hcg) (.pointer (some ⟨g, 0, none⟩))
    refine ⟨rfl, (HU1.out.mono (by simp)).trans (HM2.hu.mono (by intro i hi; simp [hi])), lay_fin HM2 ?_ (fun i hi => rfl) (by rw [HO.out]; exact hC2) hn HNB.out⟩
    have : 0 < G.length := (List.getElem?_eq_some_iff.1 HJ.out).1
    rw [List.length_cons, Nat.add_sub_cancel, List.getElem?_cons]
    rw [if_neg (by omega)]

/-! ### the rest -/
theorem chainPut_any (w : World) (c : Nat) (G : List Lk) (h : Cha w c G) (hc : ∀ i ∈ cF c G, i < w.heap.size) (t : TypeId) (v : Value) :
    Calls Try.prog 35 #[.pointer (some ⟨c, 0, none⟩), .iface t v] w fun e w' => ∃ g, e = .returned (.pointer (some ⟨g, 0, none⟩)) ∧ w.heap.size ≤ g ∧ g < w'.heap.size ∧ Upd (cF c G) w w' ∧ Cha w' c ((g, .iface t v) :: G) := by
  have hN := Cel.new w 95 [.iface t v, .pointer none, .pointer none]
  have hb1 : Below w.heap.size w (w.alloc (.cells #[.iface t v, .pointer none, .pointer none] 95)) := (Below.refl _ _).alloc (Nat.le_refl _) _
  have hs1 : (w.alloc (.cells #[.iface t v, .pointer none, .pointer none] 95)).heap.size = w.heap.size + 1 := by simp
  obtain ⟨W1, hW1⟩ : ∃ W1, W1 = w.alloc (.cells #[.iface t v, .pointer none, .pointer none] 95) := ⟨_, rfl⟩
  have KL := chainLay_any W1 c G (by rw [hW1]; exact h.below hb1) w.heap.size (.iface t v) (.pointer none) (.pointer none) (by rw [hW1]; exact hN) (fun hin => Nat.lt_irrefl _ (hc _ hin))
  have KL := Lib.hid KL
  rw [← hW1] at hb1 hs1
  have HB1 := Lib.hid hb1
  have HS1 := Lib.hid hs1
  clear hN h hb1 hs1
  go_enter Try.func35, Try.ntmps35
  go_upto_region 2 with fail
  rw [← hW1]
  clear hW1
  go_wp2_with (go_at_call 48; refine KL.out.mono ?_; rintro e W2 ⟨rfl, hu2, hq2⟩)
  go_ret
  refine ⟨_, rfl, Nat.le_refl _, ?_, ?_, hq2⟩
  · have := hu2.size; have := HS1.out; omega
  · exact (Upd.ofBelow (cF c G) HB1.out).transG hu2 (fun i hi => by rcases List.mem_cons.1 hi with e | e; exact .inr (by omega); exact .inl e)
theorem chainFirst_any (w : World) (c : Nat) (G : List Lk) (h : Cha w c G) : Calls Try.prog 52 #[.pointer (some ⟨c, 0, none⟩)] w fun e w' => e = .returned (ptr G[0]?) ∧ w = w' := by
  have c0 := h.box.get (i := 0) rfl
  clear h
  go_enter Try.func52, Try.ntmps52
  go_wp2_with fail
  go_ret
  exact ⟨rfl, rfl⟩
theorem chainLast_any (w : World) (c : Nat) (G : List Lk) (h : Cha w c G) : Calls Try.prog 36 #[.pointer (some ⟨c, 0, none⟩)] w fun e w' => e = .returned (ptr G[G.length - 1]?) ∧ w = w' := by
  have c1 := h.box.get (i := 1) rfl
  clear h
  go_enter Try.func36, Try.ntmps36
  go_wp2_with fail
  go_ret
  exact ⟨rfl, rfl⟩
theorem linkNext_any (w : World) (c : Nat) (G : List Lk) (h : Cha w c G) (k g : Nat) (x : Value) (hk : G[k]? = some (g, x)) : Calls Try.prog 53 #[.pointer (some ⟨g, 0, none⟩)] w fun e w' => e = .returned (nx G k) ∧ w = w' := by
  have c2 := (h.ch k g x hk).get (i := 2) rfl
  clear h
  go_enter Try.func53, Try.ntmps53
  go_wp2_with fail
  go_ret
  exact ⟨rfl, rfl⟩
theorem chainFront_any (w : World) (c : Nat) (G : List Lk) (h : Cha w c G) (k g : Nat) (x : Value) (hk : G[k]? = some (g, x)) :
    Calls Try.prog 34 #[.pointer (some ⟨c, 0, none⟩), .pointer (some ⟨g, 0, none⟩)] w fun e w' => e = .returned (.tuple #[]) ∧ Upd (cF c G) w w' ∧ Cha w' c ((g, x) :: G.eraseIdx k) := by
  have KD := Lib.hid (chainDrop_any w c G h k g x hk)
  have HNE := Lib.hid (not_erased h.nb hk)
  have HS := Lib.hid (fun i (hi : i ∈ g :: cF c (G.eraseIdx k)) => show i ∈ cF c G from by
    rcases List.mem_cons.1 hi with e | e
    · subst e; have := mem_blocks hk; simp [cF, this]
    · exact (cF_erase c G k).subset e)
  clear h hk
  go_enter Try.func34, Try.ntmps34
  go_wp2_with (first
    | (go_at_call 47; refine KD.out.mono ?_; rintro e W2 ⟨rfl, hu2, hq2, hg2⟩)
    | (go_at_call 48; refine (chainLay_any W2 c _ hq2 g x _ _ hg2 HNE.out).mono ?_; rintro e W3 ⟨rfl, hu3, hq3⟩))
  go_end0
  exact ⟨rfl, hu2.trans (hu3.mono HS.out), hq3⟩

end Go.Proofs.Yteifjlhkfmoljaa
