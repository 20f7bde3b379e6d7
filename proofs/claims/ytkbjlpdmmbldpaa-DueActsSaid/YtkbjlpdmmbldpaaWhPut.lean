/- A wheel as a list of what is due; Put, Len, At. -/
import Derived.Test.YtkbjlpdmmbldpaaWhLay
set_option linter.unusedVariables false
set_option linter.unusedSimpArgs false
set_option maxRecDepth 100000
namespace Go.Proofs.Ytkbjlpdmmbldpaa
open Go.RowKit

structure Tm where
  k : Int
  id : Int
  t : Nat
deriving DecidableEq
def timR : Rec Tm := ⟨54, 29, 3, 24, fun x => .agg #[.int .i64 x.k, .int .i64 x.id, .int .u64 (x.t : Int)], ⟨0, 0, 0⟩⟩
set_option maxRecDepth 100000 in
theorem timOk : timR.Ok where
  pos := by decide
  small := by decide
  bsmall := by decide
  len := fun _ => rfl
  one := by intro x v hv; simp [Rec.cells, timR, Value.cells] at hv; rcases hv with rfl | rfl | rfl <;> rfl
  slice := Try.underlying29
  info := ⟨_, rfl, rfl, rfl, rfl⟩
  fill := by
    intro y
    rw [show ((Array.range (1 * timR.n)).map (fun x => (timR.val timR.zero).cells[x % (timR.val timR.zero).cells.size]!)) = #[.int .i64 0, .int .i64 0, .int .u64 0] from by apply Array.toList_inj.1; rw [Array.toList_map, Array.toList_range]; rfl]
    obtain ⟨k, id, t⟩ := y
    kernel_rfl
def gotT (L : List Tm) (i : Int) : Option Tm := L.find? fun x => decide (x.id = i)
def idsT (L : List Tm) : List Int := L.map Tm.id
def butT (L : List Tm) (i : Int) : List Tm := L.filter fun x => decide (x.id ≠ i)
def atM (L : List Tm) (i : Int) : Option Value := (gotT L i).map fun x => .int .u64 (x.t : Int)
def spM (now : Nat) (L : List Tm) (i : Int) : Option Value := (gotT L i).map fun x => spotV (spotN now x.t)
theorem gotT_mem {l : List Tm} {i : Int} {x : Tm} (h : gotT l i = some x) : x ∈ l ∧ x.id = i := ⟨List.mem_of_find?_eq_some h, by simpa using List.find?_some h⟩
theorem gotT_none {l : List Tm} {i : Int} : gotT l i = none ↔ ∀ x ∈ l, x.id ≠ i := by unfold gotT; rw [List.find?_eq_none]; simp
theorem gotT_cons (y : Tm) (l : List Tm) (i : Int) : gotT (y :: l) i = if y.id = i then some y else gotT l i := by
  unfold gotT
  rw [List.find?_cons]
  by_cases h : y.id = i
  · rw [if_pos h, decide_eq_true h]
  · rw [if_neg h, decide_eq_false h]
theorem gotT_app (a b : List Tm) (i : Int) : gotT (a ++ b) i = (gotT a i).or (gotT b i) := by unfold gotT; rw [List.find?_append]
theorem gotT_of {l : List Tm} {x : Tm} (hn : (idsT l).Nodup) (hm : x ∈ l) : gotT l x.id = some x := by
  induction l with
  | nil => cases hm
  | cons y l ih =>
    have hn' := List.nodup_cons.1 hn
    rw [gotT_cons]
    rcases List.mem_cons.1 hm with e | hm
    · rw [if_pos (by rw [e]), e]
    · have hne : ¬ y.id = x.id := fun e => hn'.1 (e ▸ List.mem_map.2 ⟨x, hm, rfl⟩)
      rw [if_neg hne]
      exact ih hn'.2 hm
theorem got_snocT {L : List Tm} {x : Tm} (h : gotT L x.id = none) (i : Int) : gotT (L ++ [x]) i = if i = x.id then some x else gotT L i := by
  rw [gotT_app]
  by_cases hi : i = x.id
  · rw [if_pos hi, hi, h]
    unfold gotT; simp
  · rw [if_neg hi]
    have : gotT [x] i = none := gotT_none.2 (fun y hy => by simp at hy; subst hy; exact fun e => hi e.symm)
    rw [this]
    cases gotT L i <;> rfl
theorem atM_snoc {L : List Tm} {x : Tm} (h : gotT L x.id = none) : atM (L ++ [x]) = fun i => if i = x.id then some (.int .u64 (x.t : Int)) else atM L i := by
  funext i
  unfold atM
  rw [got_snocT h]
  split <;> rfl
theorem spM_snoc {now : Nat} {L : List Tm} {x : Tm} (h : gotT L x.id = none) : spM now (L ++ [x]) = fun i => if i = x.id then some (spotV (spotN now x.t)) else spM now L i := by
  funext i
  unfold spM
  rw [got_snocT h]
  split <;> rfl
theorem nodup_len : ∀ {A B : List Int}, A.Nodup → (∀ x ∈ A, x ∈ B) → A.length ≤ B.length
  | [], _, _, _ => Nat.zero_le _
  | a :: A, B, hn, hs => by
    have hn' := List.nodup_cons.1 hn
    have ha := hs a List.mem_cons_self
    have h1 := nodup_len (A := A) (B := B.erase a) hn'.2 (fun x hx => (List.mem_erase_of_ne (fun e => by subst e; exact hn'.1 hx)).2 (hs x (List.mem_cons_of_mem _ hx)))
    rw [List.length_erase_of_mem ha] at h1
    have := List.length_pos_of_mem ha
    simp only [List.length_cons]
    omega
/-- Each row has the numbers that lie there, each once. -/
def RowsOk (now : Nat) (L : List Tm) (R : Nat → List Int) : Prop := ∀ s, s < 96 → (R s).Nodup ∧ ∀ i, i ∈ R s ↔ ∃ x ∈ L, x.id = i ∧ spotN now x.t = s
theorem RowsOk.len {now : Nat} {L : List Tm} {R : Nat → List Int} (h : RowsOk now L R) {s : Nat} (hs : s < 96) : (R s).length ≤ L.length := by
  obtain ⟨h1, h2⟩ := h s hs
  have : ∀ i ∈ R s, i ∈ idsT L := fun i hi => by obtain ⟨x, hx, rfl, -⟩ := (h2 i).1 hi; exact List.mem_map.2 ⟨x, hx, rfl⟩
  have h3 : (R s).length ≤ (idsT L).length := nodup_len h1 this
  simpa [idsT] using h3
theorem RowsOk.snoc {now : Nat} {L : List Tm} {R : Nat → List Int} {x : Tm} (h : RowsOk now L R) (hx : gotT L x.id = none) : RowsOk now (L ++ [x]) (updN R (spotN now x.t) (R (spotN now x.t) ++ [x.id])) := by
  intro s hs
  have hno := gotT_none.1 hx
  by_cases e : s = spotN now x.t
  · subst e
    rw [updN_same]
    obtain ⟨h1, h2⟩ := h _ hs
    refine ⟨?_, fun i => ?_⟩
    · rw [List.nodup_append]
      refine ⟨h1, by simp, fun a ha b hb => ?_⟩
      simp at hb
      subst hb
      obtain ⟨y, hy, rfl, -⟩ := (h2 a).1 ha
      exact hno y hy
    · rw [List.mem_append, h2 i]
      constructor
      · rintro (⟨y, hy, h3⟩ | h3)
        · exact ⟨y, List.mem_append_left _ hy, h3⟩
        · exact ⟨x, by simp, by simpa using (List.mem_singleton.1 h3).symm, rfl⟩
      · rintro ⟨y, hy, h3, h4⟩
        rcases List.mem_append.1 hy with hy | hy
        · exact .inl ⟨y, hy, h3, h4⟩
        · simp at hy; subst hy; exact .inr (by simp [h3])
  · rw [updN_other _ _ e]
    obtain ⟨h1, h2⟩ := h _ hs
    refine ⟨h1, fun i => ?_⟩
    rw [h2 i]
    constructor
    · rintro ⟨y, hy, h3⟩; exact ⟨y, List.mem_append_left _ hy, h3⟩
    · rintro ⟨y, hy, h3, h4⟩
      rcases List.mem_append.1 hy with hy | hy
      · exact ⟨y, hy, h3, h4⟩
      · simp at hy; subst hy; exact absurd h4.symm e
/-- A wheel in memory has these. -/
structure WT (T : Nat → Prop) (w : World) (p now : Nat) (L : List Tm) : Prop where
  now_lt : now < 18446744073709551616
  ts : ∀ x ∈ L, x.t < 18446744073709551616
  nod : (idsT L).Nodup
  mem : ∃ m sm rv R, WMem T w p now m sm L.length rv (atM L) (spM now L) R ∧ RowsOk now L R
namespace WT
variable {T : Nat → Prop} {w w' : World} {p now : Nat} {L : List Tm}
theorem upd {F : List Nat} (h : WT T w p now L) (hu : Upd F w w') (hF : ∀ k ∈ F, ¬ T k) : WT T w' p now L := by
  obtain ⟨h1, h2, h3, m, sm, rv, R, h4, h5⟩ := h
  exact ⟨h1, h2, h3, m, sm, rv, R, h4.upd hu hF, h5⟩
theorem below (h : WT T w p now L) (hb : Below w.heap.size w w') : WT T w' p now L := h.upd (Upd.ofBelow [] hb) (by simp)
theorem wider {T' : Nat → Prop} (h : WT T w p now L) (hT : ∀ k, T k → T' k) (hlt : ∀ k, T' k → k < w.heap.size) : WT T' w p now L := by
  obtain ⟨h1, h2, h3, m, sm, rv, R, h4, h5⟩ := h
  exact ⟨h1, h2, h3, m, sm, rv, R, h4.wider hT hlt, h5⟩
theorem lt (h : WT T w p now L) : ∀ k, T k → k < w.heap.size := by
  obtain ⟨h1, h2, h3, m, sm, rv, R, h4, h5⟩ := h
  exact h4.lt
theorem tT (h : WT T w p now L) : T p := by
  obtain ⟨h1, h2, h3, m, sm, rv, R, h4, h5⟩ := h
  exact h4.tT.1
theorem same (h : WT T w p now L) (hb : Below w.heap.size w w') : WT (Gr T w w') w' p now L :=
  (h.below hb).wider (fun k hk => .inl hk) (fun k hk => by
    have := hb.size
    rcases hk with h1 | h1
    · have := h.lt k h1; omega
    · exact h1.2)
end WT
def putE (L : List Tm) (i : Int) : Int := if i < 0 then 1 else if (gotT L i).isSome = true then 8 else 0
def putT (L : List Tm) (i : Int) (t : Nat) : List Tm := if putE L i = 0 then L ++ [⟨0, i, t⟩] else L
def PutP (T : Nat → Prop) (w : World) (p now : Nat) (L : List Tm) (i : Int) (t : Nat) (e : Ending) (w' : World) : Prop :=
  e = .returned (.int .i64 (putE L i)) ∧ UpdP T w w' ∧ WT (Gr T w w') w' p now (putT L i t)

theorem run_len_mapW {t k e ty : TypeId} (ht : Try.prog.underlying t = some (.map k e)) {b : Nat} {es : Array MapEntry} {clock : Nat} {w : World} (hb : w.heap[b]? = some (.map es clock)) :
    (Builtin.len_ #[t] ty #[.map (some b)]).run Try.prog w = .ok (.int .i64 (es.size : Int)) w := by
  simp [Builtin.len_, run_underlying ht, MapKept.run_getObj_map hb, goInt]
theorem len_any {T : Nat → Prop} {w : World} {p now : Nat} {L : List Tm} (h : WT T w p now L) (hL : L.length ≤ 1000000) :
    Calls Try.prog 14 #[.pointer (some ⟨p, 0, none⟩)] w fun e w' => e = .returned (.int .i64 (L.length : Int)) ∧ w = w' := by
  obtain ⟨h1, h2, h3, m, sm, rv, R, h4, h5⟩ := h
  have c1 := h4.c1
  obtain ⟨es, clock, hm, hn⟩ := h4.ats.size
  have hrun := run_len_mapW (ty := 3) Try.underlying72 hm
  rw [hn] at hrun
  clear h4 h5 hm hn
  go_enter Try.func14, Try.ntmps14
  go_wp2_with fail
  go_ret
  exact ⟨rfl, rfl⟩
theorem len_nil (w : World) : Calls Try.prog 14 #[.pointer none] w fun e w' => e = .returned (.int .i64 0) ∧ w = w' := by
  go_enter Try.func14, Try.ntmps14
  go_wp2_with fail
  go_ret
  exact ⟨rfl, rfl⟩
theorem put_nil (w : World) (i : Int) (t : Nat) : Calls Try.prog 17 #[.pointer none, .int .i64 i, .int .u64 (t : Int)] w fun e w' => e = .returned (.int .i64 19) ∧ w = w' := by
  go_enter Try.func17, Try.ntmps17
  go_wp2_with fail
  go_ret
  exact ⟨rfl, rfl⟩

set_option maxRecDepth 100000 in
set_option maxHeartbeats 2000000 in
theorem put_any {T : Nat → Prop} {w : World} {p now : Nat} {L : List Tm} (h : WT T w p now L) (i : Int) (t : Nat) (ht : t < 18446744073709551616) (hL : L.length ≤ 100000) :
    Calls Try.prog 17 #[.pointer (some ⟨p, 0, none⟩), .int .i64 i, .int .u64 (t : Int)] w (PutP T w p now L i t) := by
  have h0 := h
  obtain ⟨h1, h2, h3, m, sm, rv, R, h4, h5⟩ := h
  have c1 := h4.c1
  have HM := Lib.hid h4
  by_cases hi : i < 0
  · have e0 := Lib.hid (show putE L i = 1 from if_pos hi)
    have e1 := Lib.hid (show putT L i t = L from by unfold putT; rw [e0.out]; rfl)
    clear h4 h5
    go_enter Try.func17, Try.ntmps17
    go_wp2_with fail
    go_ret
    exact ⟨by rw [e0.out]; rfl, UpdP.refl _ _, by rw [e1.out]; exact h0.same (Below.refl _ _)⟩
  · cases hg : gotT L i with
    | some x =>
      have e0 := Lib.hid (show putE L i = 8 from by unfold putE; rw [if_neg hi, hg]; rfl)
      have e1 := Lib.hid (show putT L i t = L from by unfold putT; rw [e0.out]; rfl)
      have HV := Lib.hid (show (atM L i).isSome = true from by unfold atM; rw [hg]; rfl)
      clear h4 h5 hg
      go_enter Try.func17, Try.ntmps17
      go_wp2_with (refine wl_lookupOk intWith rfl _ _ 72 22 rfl Try.underlying72 (z := .int .u64 0) (fun w => Try.zeroValue22 w) rfl HM.out.ats i rfl ?_; rw [HV.out])
      go_ret
      exact ⟨by rw [e0.out]; rfl, UpdP.refl _ _, by rw [e1.out]; exact h0.same (Below.refl _ _)⟩
    | none =>
      have e0 := Lib.hid (show putE L i = 0 from by unfold putE; rw [if_neg hi, hg]; rfl)
      have e1 := Lib.hid (show putT L i t = L ++ [⟨0, i, t⟩] from by unfold putT; rw [if_pos e0.out])
      have HV := Lib.hid (show (atM L i).isSome = false from by unfold atM; rw [hg]; rfl)
      have HG := Lib.hid hg
      have HR := Lib.hid h5
      have HLN := Lib.hid (fun s (hs : s < 96) => (show (R s).length ≤ 100000 from by have := h5.len hs; omega))
      clear h4 h5 hg
      go_enter Try.func17, Try.ntmps17
      go_wp2_with (first
        | (refine wl_lookupOk intWith rfl _ _ 72 22 rfl Try.underlying72 (z := .int .u64 0) (fun w => Try.zeroValue22 w) rfl HM.out.ats i rfl ?_; rw [HV.out])
        | (refine wl_update intWith rfl _ _ _ 72 22 rfl Try.underlying72 rfl HM.out.ats i rfl (.int .u64 (t : Int)) rfl ?_; intro W1 hu1 hm1; have HM1 := Lib.hid (HM.out.setAts hu1 hm1); have HU1 := Lib.hid hu1; clear hu1 hm1)
        | (go_at_call 46; refine (lay_any HM1.out i t (if_pos rfl) ht h1 HLN.out).mono ?_; rintro e W2 ⟨rfl, hu2, rv2, hm2⟩))
      go_ret
      have hP1 : UpdP T w W1 := UpdP.of HU1.out (fun k hk => by simp at hk; subst hk; exact .inl HM.out.tT.2.1)
      have hU : UpdP T w W2 := hP1.trans ⟨hu2.os, hu2.tape, hu2.output, hu2.size, fun k hk hn => hu2.block k hk (fun h9 => hn (.inl h9))⟩
      have hs1 := hP1.size
      have hs2 := hu2.size
      refine ⟨by rw [e0.out]; rfl, hU, ?_⟩
      rw [e1.out]
      refine ⟨h1, fun x hx => ?_, ?_, m, sm, rv2, _, ?_, HR.out.snoc (x := ⟨0, i, t⟩) HG.out⟩
      · rcases List.mem_append.1 hx with hx | hx
        · exact h2 x hx
        · simp at hx; subst hx; exact ht
      · unfold idsT
        rw [List.map_append, List.nodup_append]
        refine ⟨h3, by simp, fun a ha b hb => ?_⟩
        simp at hb
        subst hb
        obtain ⟨x, hx, rfl⟩ := List.mem_map.1 ha
        exact gotT_none.1 HG.out x hx
      · rw [atM_snoc (x := ⟨0, i, t⟩) HG.out, spM_snoc (x := ⟨0, i, t⟩) HG.out]
        rw [HV.out] at hm2
        have hl : (L ++ [(⟨0, i, t⟩ : Tm)]).length = L.length + 1 := by simp
        rw [hl]
        refine hm2.wider (fun k hk => ?_) (fun k hk => ?_)
        · rcases hk with h9 | h9
          · exact .inl h9
          · exact .inr ⟨by omega, h9.2⟩
        · rcases hk with h9 | h9
          · exact hm2.lt k (.inl h9)
          · exact h9.2
end Go.Proofs.Ytkbjlpdmmbldpaa
