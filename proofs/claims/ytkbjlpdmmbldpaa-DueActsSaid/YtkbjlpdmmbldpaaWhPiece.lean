/- Turned in pieces (printed by genwhpiece.py). -/
import Derived.Test.YtkbjlpdmmbldpaaWhOpen
set_option linter.unusedVariables false
set_option linter.unusedSimpArgs false
set_option maxRecDepth 100000
namespace Go.Proofs.Ytkbjlpdmmbldpaa
open Go.RowKit

theorem WT.updP {T P : Nat → Prop} {w w' : World} {p now : Nat} {L : List Tm} (h : WT T w p now L) (hu : UpdP P w w') (hP : ∀ k, P k → ¬ T k) : WT T w' p now L := by
  obtain ⟨h1, h2, h3, m, sm, rv, R, h4, h5⟩ := h
  exact ⟨h1, h2, h3, m, sm, rv, R, h4.updP hu hP, h5⟩
theorem owns_keepsR {α : Type} {R : Rec α} {B : Nat} {w w' : World} {v : Value} {X : List α} (h : Owns R B w v X) (hk : ∀ k, v.ownBlock = some k → w'.heap[k]? = w.heap[k]?) : Owns R B w' v X := by
  refine ⟨h.1, ?_⟩
  rcases h.2 with h9 | ⟨g, cap, cur, rfl, h1, h2, h3⟩
  · exact .inl h9
  · exact .inr ⟨g, cap, cur, rfl, h1, by rw [hk g rfl]; exact h2, h3⟩
theorem now_T {T : Nat → Prop} {w : World} {p now : Nat} {L : List Tm} (h : WT T w p now L) : Calls Try.prog 15 #[.pointer (some ⟨p, 0, none⟩)] w fun e w' => e = .returned (.int .u64 (now : Int)) ∧ w = w' := by
  obtain ⟨-, -, -, m, sm, rv, R, h4, -⟩ := h
  exact now_any h4
def putA (L : List Tm) (a : Ac) : List Tm := if a.kind = 0 then putT L a.id a.t else L
def putAll (A : List Ac) : List Tm := A.foldl putA []
theorem putAll_snoc (A : List Ac) (a : Ac) : putAll (A ++ [a]) = putA (putAll A) a := by unfold putAll; rw [List.foldl_append]; rfl
theorem putAll_ok (A : List Ac) : (putAll A).length ≤ A.length ∧ ∀ x ∈ putAll A, x.k = 0 := by
  unfold putAll
  have : ∀ (A : List Ac) (L : List Tm), (∀ x ∈ L, x.k = 0) → (A.foldl putA L).length ≤ L.length + A.length ∧ ∀ x ∈ A.foldl putA L, x.k = 0 := by
    intro A
    induction A with
    | nil => intro L hL; exact ⟨by simp, hL⟩
    | cons a A ih =>
      intro L hL
      have h2 : ∀ x ∈ putA L a, x.k = 0 := by unfold putA; split; exact putT_k hL _ _; exact hL
      have h3 : (putA L a).length ≤ L.length + 1 := by unfold putA; split; exact putT_len _ _ _; omega
      obtain ⟨i1, i2⟩ := ih (putA L a) h2
      exact ⟨by simp only [List.foldl_cons, List.length_cons]; omega, i2⟩
  have := this A [] (by simp)
  exact ⟨by simpa using this.1, this.2⟩
def PutL (T : Nat → Prop) (wr : World) (p now : Nat) (A : List Ac) (e : Ending) (w' : World) : Prop := e = .returned (.tuple #[]) ∧ UpdP T wr w' ∧ WT (Gr T wr w') w' p now (putAll A)
set_option maxHeartbeats 4000000 in
theorem putL_any {T : Nat → Prop} {w0 ws : World} {p now : Nat} (hb : Below w0.heap.size w0 ws) (hT : ∀ k, T k → w0.heap.size ≤ k) (h : WT T ws p now []) (v : Value) (A : List Ac) (hv : Reads acR w0 v A) (hA : ∀ a ∈ A, a.t < 18446744073709551616) (hL : A.length ≤ 1000) :
    Calls Try.prog 11 #[.pointer (some ⟨p, 0, none⟩), v] ws (PutL T ws p now A) := by
  obtain ⟨av, cv, rfl⟩ := hv.form
  have HV := Lib.hid hv
  have HB := Lib.hid hb
  have HT := Lib.hid hT
  have HA := Lib.hid hA
  have HW := Lib.hid (h.wider (T' := Gr T ws ws) (fun k hk => .inl hk) (fun k hk => by rcases hk with h9 | h9; exact h.lt k h9; omega))
  have hs0 := hb.size
  clear hv hb hT hA h
  go_enter Try.func11, Try.ntmps11
  go_wp2_with fail
  go_loopw [4] (fun i wr => ∃ k : Nat, k ≤ A.length ∧ i = .int .i64 k ∧ Hid (UpdP T ws wr) ∧ Hid (WT (Gr T ws wr) wr p now (putAll (A.take k)))) (fun i _ => A.length - (intOf i).toNat)
  case atStart => exact ⟨0, by omega, rfl, Lib.hid (UpdP.refl _ _), Lib.hid HW.out⟩
  case round =>
    clear HW
    obtain ⟨k, hk, rfl, HU, HW⟩ := hrel
    by_cases hlt : k < A.length
    · obtain ⟨a, ha⟩ : ∃ a, A[k]? = some a := ⟨_, List.getElem?_eq_getElem hlt⟩
      have hbw := HU.out.toB HB.out HB.out.size HT.out
      obtain ⟨b9, off9, e9, hr0⟩ := HV.out.at ha
      obtain ⟨b, off, rfl, hr⟩ := (HV.out.below hbw).at ha
      obtain ⟨rfl, rfl⟩ : b = b9 ∧ off = off9 := by simpa using e9
      obtain ⟨k0, k1, k2⟩ := ac_parts hr
      have kk0 : wr.cell? ⟨b, off + k * 3, none⟩ = some (.int .i64 a.kind) := k0
      have HR0 := Lib.hid hr0
      have HRW := Lib.hid hr
      have hat := Lib.hid (HA.out a (List.mem_of_getElem? ha))
      have HSN := Lib.hid (show putAll (A.take (k + 1)) = putA (putAll (A.take k)) a from by rw [← take_snoc ha, putAll_snoc])
      clear ha e9 hr0 hr k0 k1 k2
      cases e0 : (a.kind == 0) with
      | false =>
        have e1 : putA (putAll (A.take k)) a = putAll (A.take k) := by unfold putA; rw [if_neg (by simpa using e0)]
        have HWN := Lib.hid (show WT (Gr T ws wr) wr p now (putAll (A.take (k + 1))) from by rw [HSN.out, e1]; exact HW.out)
        clear e1
        go_wp2_with fail
        go_roundw
        case rel => exact ⟨k + 1, by omega, by go_num, HU, HWN⟩
        case measure => simp [intOf]; omega
      | true =>
        have e1 : putA (putAll (A.take k)) a = putT (putAll (A.take k)) a.id a.t := by unfold putA; rw [if_pos (by simpa using e0)]
        rw [e1] at HSN
        clear e1
        go_upto_region 4 with fail
        have hneS : Nonempty (Mix.InS (fun z => z.rangeAt b (off + k * acR.n) (acR.cells a))) := ⟨⟨wr, HRW.out⟩⟩
        have d1 := fun (z : Mix.InS (fun z => z.rangeAt b (off + k * acR.n) (acR.cells a))) => (show z.w.cell? ⟨b, off + k * 3 + 1, none⟩ = some (.int .i64 a.id) from (ac_parts z.h).2.1)
        have d2 := fun (z : Mix.InS (fun z => z.rangeAt b (off + k * acR.n) (acR.cells a))) => (show z.w.cell? ⟨b, off + k * 3 + 2, none⟩ = some (.int .u64 (a.t : Int)) from (ac_parts z.h).2.2)
        clear kk0
        refine Mix.wp_region_mix [([0, 1, 2, 3, 4, 5, 6, 7, 8, 9, 10], 11)] [] (fun w' => ∃ x : Mix.InS (fun z => z.rangeAt b (off + k * acR.n) (acR.cells a)), w' = x.w) (by kernel_rfl) (by kernel_rfl) (Mix.inS_mk (below_range ((Below.refl _ _).drew) HRW.out)) ?_
        have hbd : Below wr.heap.size wr wr.drew := (Below.refl _ _).drew
        generalize wr.drew = W4 at hbd ⊢
        have hU4 : UpdP T ws W4 := HU.out.trans (UpdP.ofB hbd)
        have hsd := hbd.size
        have hW4 : WT (Gr T ws W4) W4 p now (putAll (A.take k)) := (HW.out.below hbd).wider (fun k hk => gr_self hsd hk) (fun k hk => by
          rcases hk with h9 | h9
          · have := HW.out.lt k (.inl h9); omega
          · exact h9.2)
        have HU4 := Lib.hid hU4
        have hlen := (putAll_ok (A.take k)).1
        rw [List.length_take] at hlen
        have KP := Lib.hid (put_any hW4 a.id a.t hat.out (by omega))
        clear hU4 hW4 hbd HU HW
        refine Mix.stages_cons ?_
        simp only [Mix.pickL, List.getElem?_cons_zero, List.getElem?_cons_succ]
        repeat (first
          | go_big_quiet_skip
          | (go_big_quiet_want; (go_big_quiet_op; go_big_quiet_on)))
        refine wpQuiet_nil ?_
        go_wp2_with (go_at_call 17; refine KP.out.mono ?_; rintro e W5 ⟨rfl, hu5, hw5⟩; have HU5 := Lib.hid hu5; have HW5 := Lib.hid hw5; clear hu5 hw5)
        have hU6 : UpdP T ws W5 := HU4.out.trans HU5.out
        have hb5 := hU6.toB HB.out HB.out.size HT.out
        refine Mix.onward_in (below_range hb5 HR0.out) ?_
        refine Mix.stages_nil ?_
        simp only [Mix.pickL]
        refine wpQuiet_nil ?_
        clear d1 d2 hneS
        have HU6 := Lib.hid hU6
        have hs45 := HU5.out.size
        have hs04 := HU4.out.size
        have HW6 := Lib.hid (show WT (Gr T ws W5) W5 p now (putAll (A.take (k + 1))) from by
          rw [HSN.out]
          exact HW5.out.wider (fun k hk => Gr.sub hs04 hs45 hk) (fun k hk => by
            rcases hk with h9 | h9
            · have := HW5.out.lt k (.inl (.inl h9)); omega
            · exact h9.2))
        clear hU6 hb5
        go_wp2_with fail
        go_roundw
        case rel => exact ⟨k + 1, by omega, by go_num, HU6, HW6⟩
        case measure => simp [intOf]; omega
    · obtain rfl : k = A.length := by omega
      rw [List.take_length] at HW
      go_wp2_with fail
      go_end0
      exact ⟨rfl, HU.out, HW.out⟩
theorem TurnOk.two {L : List Tm} {a b : Nat} {o1 o2 : List Tm} (h1 : TurnOk L a o1) (h2 : TurnOk (restT L a) b o2) (hab : a ≤ b) : TurnOk L b (o1 ++ o2) ∧ restT (restT L a) b = restT L b := by
  have hr : ∀ x, x ∈ restT L a ↔ x ∈ L ∧ a < x.t := fun x => by unfold restT; rw [List.mem_filter]; simp
  refine ⟨⟨?_, fun x => ?_⟩, ?_⟩
  · rw [List.pairwise_append]
    refine ⟨h1.srt, h2.srt, fun x hx y hy => ?_⟩
    have a1 := ((h1.mem x).1 hx).2
    have a2 := ((hr y).1 ((h2.mem y).1 hy).1).2
    exact .inl (by omega)
  · rw [List.mem_append, h1.mem, h2.mem, hr]
    constructor
    · rintro (⟨q1, q2⟩ | ⟨⟨q1, q2⟩, q3⟩)
      · exact ⟨q1, by omega⟩
      · exact ⟨q1, q3⟩
    · rintro ⟨q1, q2⟩
      by_cases hx : x.t ≤ a
      · exact .inl ⟨q1, hx⟩
      · exact .inr ⟨⟨q1, by omega⟩, q2⟩
  · unfold restT
    rw [List.filter_filter]
    refine List.filter_congr fun x _ => ?_
    by_cases h9 : b < x.t
    · rw [decide_eq_true h9, decide_eq_true (show a < x.t by omega)]; rfl
    · rw [decide_eq_false h9]; rfl
/-- What has come so far, piece by piece. -/
def PInv (L : List Tm) (now k la : Nat) (Lv out : List Tm) : Prop := now ≤ la ∧ ((k = 0 ∧ out = [] ∧ Lv = L ∧ la = now) ∨ (0 < k ∧ TurnOk L la out ∧ Lv = restT L la))
theorem PInv.step {L : List Tm} {now k la c : Nat} {Lv out o2 : List Tm} (h : PInv L now k la Lv out) (h2 : TurnOk Lv (max la c) o2) : PInv L now (k + 1) (max la c) (restT Lv (max la c)) (out ++ o2) := by
  obtain ⟨h0, ⟨-, rfl, rfl, rfl⟩ | ⟨-, h3, rfl⟩⟩ := h
  · exact ⟨by omega, .inr ⟨by omega, by simpa using h2, rfl⟩⟩
  · obtain ⟨q1, q2⟩ := h3.two h2 (by omega)
    exact ⟨by omega, .inr ⟨by omega, q1, q2⟩⟩
theorem PInv.sub {L : List Tm} {now k la : Nat} {Lv out : List Tm} (h : PInv L now k la Lv out) : ∀ x ∈ Lv, x ∈ L := by
  obtain ⟨-, ⟨-, -, rfl, -⟩ | ⟨-, -, rfl⟩⟩ := h
  · exact fun x hx => hx
  · exact fun x hx => (List.mem_filter.1 hx).1
theorem PInv.lens {L : List Tm} {now k la : Nat} {Lv out : List Tm} (h : PInv L now k la Lv out) : Lv.length ≤ L.length ∧ out.length ≤ L.length := by
  obtain ⟨-, ⟨-, rfl, rfl, -⟩ | ⟨-, h1, rfl⟩⟩ := h
  · exact ⟨Nat.le_refl _, by simp⟩
  · refine ⟨List.length_filter_le _ _, nodup_lenT (h1.srt.imp (fun {x y} h9 e => ?_)) (fun x hx => ((h1.mem x).1 hx).1)⟩
    subst e
    unfold ltT at h9
    omega
theorem wl_build_none_rec {α : Type} {R : Rec α} (k : R.Ok) {ops : Array Oper} {rest : List Oper} {o : Oper} {a : Act} {w : World} {Q : Exit → Act → World → Prop} (hgd : o.guard = none) (ho : o.op = .buildSlice R.st 0 #[])
    (h : wpList Try.prog ops Q rest (a.put o.dst (.slice (some ⟨w.heap.size, 0, none⟩) 0 0)) (w.alloc (.cells #[] R.ty))) : wpList Try.prog ops Q (o :: rest) a w :=
  wpList_plain hgd fun _ hK2 => wp_build_none_rec k ho (hK2 _ _ h)
/-- Two wheels, and what has come out of the second one. -/
structure Pair (w wr : World) (p1 p2 now : Nat) (L : List Tm) (la : Nat) (Lv : List Tm) (ov : Value) (out : List Tm) : Prop where
  below : Below w.heap.size w wr
  own : Owns timR w.heap.size wr ov out
  ws : ∃ S1 S2 : Nat → Prop, WT S1 wr p1 now L ∧ WT S2 wr p2 la Lv ∧ (∀ k, S1 k → w.heap.size ≤ k) ∧ (∀ k, S2 k → w.heap.size ≤ k ∧ ¬ S1 k) ∧ ∀ k, ov.ownBlock = some k → ¬ S1 k ∧ ¬ S2 k
theorem Pair.later {w wr w' : World} {p1 p2 now la : Nat} {L Lv out : List Tm} {ov : Value} (h : Pair w wr p1 p2 now L la Lv ov out) (hb : Below wr.heap.size wr w') : Pair w w' p1 p2 now L la Lv ov out := by
  obtain ⟨h1, h2, S1, S2, h3, h4, h5⟩ := h
  exact ⟨bthen' h1 hb, h2.below hb, S1, S2, h3.below hb, h4.below hb, h5⟩
/-- The second one turns, and what comes is appended. -/
theorem Pair.step {w wr w7 w8 : World} {p1 p2 now la lb : Nat} {L Lv out : List Tm} {ov : Value} {S1 S2 : Nat → Prop} {o7 u8 : Value} {out7 : List Tm} (hbel : Below w.heap.size w wr) (hown : Owns timR w.heap.size wr ov out) (h1 : WT S1 wr p1 now L) (h2 : WT S2 wr p2 la Lv) (h3 : ∀ k, S1 k → w.heap.size ≤ k) (h4 : ∀ k, S2 k → w.heap.size ≤ k ∧ ¬ S1 k) (h5 : ∀ k, ov.ownBlock = some k → ¬ S1 k ∧ ¬ S2 k)
    (hu : UpdP S2 wr w7) (T' : Nat → Prop) (hw : WT T' w7 p2 lb (restT Lv lb)) (hg : ∀ k, T' k → Gr S2 wr w7 k)
    (hO8 : Owns timR w.heap.size w8 u8 (out ++ out7)) (hgr : w7.grownBy w8 ov.ownBlock) (hat : u8.ownBlock = ov.ownBlock ∨ u8.ownBlock = some w7.heap.size) : Pair w w8 p1 p2 now L lb (restT Lv lb) u8 (out ++ out7) := by
  have hw0 := hbel.size
  have hs7 := hu.size
  have hs8 := hgr.size
  have hU8 := upd_grown hgr
  have hb7 : Below w.heap.size w w7 := hu.toB hbel hbel.size (fun k hk => (h4 k hk).1)
  have hovT : ∀ k, ov.ownBlock = some k → ¬ T' k := fun k hk h9 => by
    rcases hg k h9 with h10 | h10
    · exact (h5 k hk).2 h10
    · have := (hown.lt k hk).2; omega
  have hS17 : WT S1 w7 p1 now L := h1.updP hu (fun k hk => (h4 k hk).2)
  refine ⟨hb7.grown hgr hb7.size (fun k hk => (hown.lt k hk).1), hO8, S1, T', hS17.upd hU8 (fun k hk => (h5 k (by simpa using hk)).1), hw.upd hU8 (fun k hk => hovT k (by simpa using hk)), h3, fun k hk => ?_, fun k hk => ?_⟩
  · rcases hg k hk with h10 | h10
    · exact h4 k h10
    · exact ⟨by omega, fun h9 => by have := h1.lt k h9; omega⟩
  · rcases hat with h9 | h9
    · rw [h9] at hk; exact ⟨(h5 k hk).1, hovT k hk⟩
    · rw [h9] at hk
      cases hk
      exact ⟨fun h9 => by have := h1.lt _ h9; omega, fun h9 => by have := hw.lt _ h9; omega⟩
/-- Two wheels that have been made, and been given what they are given. -/
theorem Pair.start {w W1 W2 W3 W4 W5 : World} {p1 p2 now : Nat} {L : List Tm} (hb1 : Below w.heap.size w W1) (hw1 : WT (fun k => w.heap.size ≤ k ∧ k < W1.heap.size) W1 p1 now []) (hb2 : Below W1.heap.size W1 W2) (hw2 : WT (fun k => W1.heap.size ≤ k ∧ k < W2.heap.size) W2 p2 now [])
    (hu3 : UpdP (fun k => w.heap.size ≤ k ∧ k < W1.heap.size) W2 W3) (hw3 : WT (Gr (fun k => w.heap.size ≤ k ∧ k < W1.heap.size) W2 W3) W3 p1 now L) (hu4 : UpdP (fun k => W1.heap.size ≤ k ∧ k < W2.heap.size) W3 W4) (hw4 : WT (Gr (fun k => W1.heap.size ≤ k ∧ k < W2.heap.size) W3 W4) W4 p2 now L)
    (hb5 : Below W4.heap.size W4 W5) {g : Nat} (ho : Owns timR w.heap.size W5 (.slice (some ⟨g, 0, none⟩) 0 0) []) (hg : g = W4.heap.size) : Pair w W5 p1 p2 now L now L (.slice (some ⟨g, 0, none⟩) 0 0) [] := by
  have s1 := hb1.size
  have s2 := hb2.size
  have s3 := hu3.size
  have s4 := hu4.size
  have s5 := hb5.size
  have b2 := bthen' hb1 hb2
  have b3 := hu3.toB b2 b2.size (fun k hk => hk.1)
  have b4 := hu4.toB b3 b3.size (fun k hk => by omega)
  refine ⟨bthen' b4 hb5, ho, _, _, (hw3.updP hu4 (fun k hk h9 => ?_)).below hb5, hw4.below hb5, fun k hk => ?_, fun k hk => ?_, fun k hk => ?_⟩
  · rcases h9 with h9 | h9 <;> omega
  · rcases hk with h9 | h9 <;> omega
  · refine ⟨?_, fun h9 => ?_⟩
    · rcases hk with h9 | h9 <;> omega
    · rcases hk with h10 | h10 <;> rcases h9 with h9 | h9 <;> omega
  · simp [Value.ownBlock] at hk
    subst hk
    refine ⟨fun h9 => ?_, fun h9 => ?_⟩
    · rcases h9 with h9 | h9 <;> omega
    · rcases h9 with h9 | h9 <;> omega
set_option maxHeartbeats 4000000 in
theorem pieces_far (w : World) (now : Int) (va vc : Value) (A : List Ac) (C : List Nat) (ha : Reads acR w va A) (hc : Reads natR w vc C) (h : 100 < A.length ∨ C.length < 1 ∨ 60 < C.length) :
    Calls Try.prog 3 #[.int .u64 now, va, vc] w fun e w' => e = .returned (.bool true) ∧ Below w.heap.size w w' := by
  obtain ⟨aa, ca, rfl⟩ := ha.form
  obtain ⟨ac, cc, rfl⟩ := hc.form
  clear ha hc
  have KV := Lib.hid (live08_any w)
  by_cases h1 : 100 < A.length
  · clear h
    go_enter Try.func3, Try.ntmps3
    go_wp2_with (go_at_call 9; refine KV.out.mono ?_; rintro e W2 ⟨rfl, hb2⟩)
    go_ret
    exact ⟨rfl, hb2⟩
  · by_cases h2 : C.length < 1
    · clear h
      obtain h20 : C.length = 0 := by omega
      rw [h20]
      go_enter Try.func3, Try.ntmps3
      go_wp2_with (go_at_call 9; refine KV.out.mono ?_; rintro e W2 ⟨rfl, hb2⟩)
      go_ret
      exact ⟨rfl, hb2⟩
    · have h3 : 60 < C.length := by omega
      have h2' : 1 ≤ C.length := by omega
      clear h h2
      go_enter Try.func3, Try.ntmps3
      go_wp2_with (go_at_call 9; refine KV.out.mono ?_; rintro e W2 ⟨rfl, hb2⟩)
      go_ret
      exact ⟨rfl, hb2⟩
set_option maxHeartbeats 8000000 in
theorem pieces_yes (w : World) (now : Nat) (va vc : Value) (A : List Ac) (C : List Nat) (hnow : now < 18446744073709551616) (ha : Reads acR w va A) (hA : ∀ a ∈ A, a.t < 18446744073709551616) (hc : Reads natR w vc C) (hC : ∀ c ∈ C, c < 18446744073709551616) (c1 : A.length ≤ 100) (c2 : 1 ≤ C.length) (c3 : C.length ≤ 60) :
    Calls Try.prog 3 #[.int .u64 (now : Int), va, vc] w fun e w' => e = .returned (.bool true) ∧ Below w.heap.size w w' := by
  obtain ⟨aa, ca, rfl⟩ := ha.form
  obtain ⟨ac, cc, rfl⟩ := hc.form
  have HA := Lib.hid ha
  have HC := Lib.hid hc
  have HCB := Lib.hid hC
  have HAB := Lib.hid hA
  have K1 := Lib.hid (new_any w now hnow)
  have hpl := putAll_ok A
  have HPK := Lib.hid hpl.2
  have hpl1 := hpl.1
  clear ha hc hC hA hpl
  go_enter Try.func3, Try.ntmps3
  go_upto_region 4 with (first
    | (go_at_call 10; refine K2.out.mono ?_; rintro e W2 ⟨p2, rfl, hb2, hw2⟩; have HB2 := Lib.hid hb2; have HW2 := Lib.hid hw2; clear hb2 hw2)
    | (go_at_call 10; refine K1.out.mono ?_; rintro e W1 ⟨p1, rfl, hb1, hw1⟩; have HB1 := Lib.hid hb1; have HW1 := Lib.hid hw1; clear hb1 hw1; have K2 := Lib.hid (new_any W1 now hnow)))
  have KP1 := Lib.hid (putL_any (w0 := w) (bthen' HB1.out HB2.out) (fun k hk => hk.1) (HW1.out.below HB2.out) _ A HA.out HAB.out (by omega))
  clear K1 K2
  go_upto_region 5 with (go_at_call 11; refine KP1.out.mono ?_; rintro e W3 ⟨rfl, hu3, hw3⟩; have HU3 := Lib.hid hu3; have HW3 := Lib.hid hw3; clear hu3 hw3)
  have b3 := HU3.out.toB (bthen' HB1.out HB2.out) (bthen' HB1.out HB2.out).size (fun k hk => hk.1)
  have KP2 := Lib.hid (putL_any (w0 := w) b3 (fun k hk => by have := HB1.out.size; omega) (HW2.out.updP HU3.out (fun k hk h9 => by omega)) _ A HA.out HAB.out (by omega))
  clear KP1 b3
  go_upto_region 7 with (go_at_call 11; refine KP2.out.mono ?_; rintro e W4 ⟨rfl, hu4, hw4⟩; have HU4 := Lib.hid hu4; have HW4 := Lib.hid hw4; clear hu4 hw4)
  have hs4 := HU4.out.size
  have hsz : w.heap.size ≤ W4.heap.size := by have a1 := HB1.out.size; have a2 := HB2.out.size; have a3 := HU3.out.size; omega
  go_upto_block 0 with (refine wl_build_none_rec timOk rfl rfl ?_; have HO5 := Lib.hid (Owns.made (R := timR) hsz); have HB5 := Lib.hid (show Below W4.heap.size W4 (W4.alloc (.cells #[] timR.ty)) from (Below.refl _ _).alloc (Nat.le_refl _) _); generalize W4.alloc (.cells #[] timR.ty) = W5 at HO5 HB5 ⊢)
  have HP5 := Lib.hid (Pair.start HB1.out HW1.out HB2.out HW2.out HU3.out HW3.out HU4.out HW4.out HB5.out HO5.out rfl)
  clear HB1 HW1 HB2 HW2 HU3 HW3 HU4 HW4 HB5 HO5 KP2 hs4 hsz
  go_wp2_with fail
  go_loopw [9, 10, 11] (fun l9 o10 i wr => ∃ (ov : Value) (k la : Nat) (Lv out : List Tm), o10 = ov ∧ k ≤ C.length ∧ i = .int .i64 k ∧ l9 = .int .u64 (la : Int) ∧ la < 18446744073709551616 ∧ Pair w wr p1 p2 now (putAll A) la Lv ov out ∧ Hid (PInv (putAll A) now k la Lv out)) (fun _ _ i _ => C.length - (intOf i).toNat)
  case atStart => exact ⟨_, 0, now, putAll A, [], rfl, by omega, rfl, rfl, hnow, HP5.out, Lib.hid ⟨by omega, .inl ⟨rfl, rfl, rfl, rfl⟩⟩⟩
  case round =>
    clear HP5
    obtain ⟨ov, k, la, Lv, out, hov, hk, rfl, rfl, hla, hPair, HI⟩ := hrel
    have hov' := hov.symm
    clear hov
    subst hov'
    have HP := Lib.hid hPair
    have hlens := HI.out.lens
    by_cases hlt : k < C.length
    · obtain ⟨c, hcx⟩ : ∃ c, C[k]? = some c := ⟨_, List.getElem?_eq_getElem hlt⟩
      obtain ⟨b, off, rfl, hr⟩ := (HC.out.below hPair.below).at hcx
      have kc := nat_cell hr
      have hcb := HCB.out c (List.mem_of_getElem? hcx)
      obtain ⟨lb, hlb⟩ : ∃ lb, lb = max la c := ⟨_, rfl⟩
      have hmx : (max (la : Int) (c : Int)) = (lb : Int) := by omega
      have hlb2 : lb < 18446744073709551616 := by omega
      obtain ⟨S1, S2, h1, h2, h3, h4, h5⟩ := hPair.ws
      have kt := turn_any h2 (fun x hx => HPK.out x (HI.out.sub x hx)) lb hlb2 (by omega)
      rw [← hmx] at kt
      have KT := Lib.hid kt
      have HST := Lib.hid (fun w7 w8 o7 u8 out7 (T' : Nat → Prop) hu hw hg hO8 hgr hat => Pair.step (lb := lb) (w7 := w7) (w8 := w8) (o7 := o7) (u8 := u8) (out7 := out7) hPair.below hPair.own h1 h2 h3 h4 h5 hu T' hw hg hO8 hgr hat)
      have HOK := Lib.hid (fun w7 (hu : UpdP S2 wr w7) => owns_keepsR hPair.own (fun k hk => hu.block k (hPair.own.lt k hk).2 (h5 k hk).2))
      have hwb := hPair.below.size
      have HLB := Lib.hid hlb
      have HMX := Lib.hid hmx
      have hla3 := hla
      have hmaxlb : max la lb = lb := by omega
      clear hcx hr kt h1 h2 h3 h4 h5 hPair hlb hmx
      go_wp2_with (first
        | (go_at_call 12; refine KT.out.mono ?_; rintro e W7 ⟨o7, out7, rfl, hu7, ⟨T', hw7, hg7, hn7⟩, ho7, hok7⟩; rw [hmaxlb] at hw7; have HU7 := Lib.hid hu7; have HW7 := Lib.hid hw7; have HG7 := Lib.hid hg7; have HO7 := Lib.hid ho7; have HOK7 := Lib.hid hok7; have HOV := Lib.hid (HOK.out W7 hu7); have hs7 := hu7.size; have hout7 := (show out7.length ≤ Lv.length from nodup_lenT (hok7.srt.imp (fun {x y} h9 e => by subst e; unfold ltT at h9; omega)) (fun x hx => ((hok7.mem x).1 hx).1)); clear hu7 hw7 hg7 hn7 ho7 hok7)
        | (refine wl_append_all timOk rfl _ _ rfl rfl w.heap.size ov _ out out7 rfl rfl HOV.out (HO7.out.lts timOk) (by omega) (by omega) ?_; intro u8 W8 hO8 hg8 hat8; have HO8 := Lib.hid hO8; have HG8 := Lib.hid hg8; have HAT8 := Lib.hid hat8; clear hO8 hg8 hat8))
      have HPN := Lib.hid (HST.out W7 W8 o7 u8 out7 T' HU7.out HW7.out HG7.out HO8.out HG8.out HAT8.out)
      have hin := PInv.step (c := c) HI.out (by rw [← HLB.out]; exact HOK7.out)
      rw [← HLB.out] at hin
      have HIN := Lib.hid hin
      clear hin
      go_roundw
      case rel => exact ⟨_, k + 1, lb, _, _, rfl, by omega, by go_num, by rw [← HMX.out], hlb2, HPN.out, HIN⟩
      case measure => simp [intOf]; omega
    · obtain rfl : k = C.length := by omega
      obtain ⟨S1, S2, h1, h2, h3, h4, h5⟩ := hPair.ws
      obtain ⟨hnl, hdone⟩ := HI.out
      have hfin : TurnOk (putAll A) la out ∧ Lv = restT (putAll A) la := by
        rcases hdone with ⟨h9, -⟩ | ⟨-, h9, h10⟩
        · omega
        · exact ⟨h9, h10⟩
      obtain ⟨hok, rfl⟩ := hfin
      have hrl : (restT (putAll A) la).length ≤ 100 := by omega
      have kt := turn_any h1 HPK.out la hla (by omega)
      have KT := Lib.hid kt
      have HE := Lib.hid (fun w7 (hu : UpdP S1 wr w7) => (show Owns timR w.heap.size w7 ov out ∧ WT S2 w7 p2 la (restT (putAll A) la) ∧ Below w.heap.size w w7 from ⟨owns_keepsR hPair.own (fun k hk => hu.block k (hPair.own.lt k hk).2 (h5 k hk).1), h2.updP hu (fun k hk h9 => (h4 k h9).2 hk), hu.toB hPair.below hPair.below.size h3⟩))
      have HOK := Lib.hid hok
      have hmaxla : max now la = la := by omega
      clear kt h1 h2 h3 h4 h5 hPair hdone hok
      go_upto_region 13 with fail
      go_wp2_with (first
        | (go_at_call 15; refine KN2.out.mono ?_; rintro e w' ⟨rfl, rfl⟩)
        | (go_at_call 15; refine KN1.out.mono ?_; rintro e w' ⟨rfl, rfl⟩; have KN2 := Lib.hid (now_T (HV7.out.below hb8)))
        | (go_at_call 14; refine KL2.out.mono ?_; rintro e w' ⟨rfl, rfl⟩)
        | (go_at_call 14; refine KL1.out.mono ?_; rintro e w' ⟨rfl, rfl⟩; have KL2 := Lib.hid (len_any (HV7.out.below hb8) (by omega)))
        | (go_at_call 13; refine KS.out.mono ?_; rintro e W8 ⟨rfl, hb8⟩; have KL1 := Lib.hid (len_any (HW7.out.below hb8) (by omega)); have KN1 := Lib.hid (now_T (HW7.out.below hb8)))
        | (go_at_call 12; refine KT.out.mono ?_; rintro e W7 ⟨o7, out7, rfl, hu7, ⟨T', hw7, hg7, hn7⟩, ho7, hok7⟩; rw [hmaxla] at hw7; obtain rfl : out7 = out := hok7.unique HOK.out; obtain ⟨e1, e2, e3⟩ := HE.out W7 hu7; have HW7 := Lib.hid hw7; have HV7 := Lib.hid e2; have HBZ := Lib.hid e3; have ks := same_any W7 _ _ out7 out7 (ho7.lts timOk) (e1.lts timOk) (by omega); rw [decide_eq_true rfl] at ks; have KS := Lib.hid ks; clear hu7 hw7 hg7 hn7 ho7 hok7 e1 e2 e3 ks)
        | (go_at_call 9; refine (live08_any _).mono ?_; rintro e W9 ⟨rfl, hb9⟩))
      go_ret
      exact ⟨rfl, bthen' HBZ.out (bthen' hb8 hb9)⟩
theorem pieces_of (w : World) (z : Int) (va vc : Value) (A : List Ac) (C : List Nat) (hz : (Lit.int .u64 z).wf = true) (ha : Reads acR w va A) (hA : ∀ a ∈ A, a.t < 18446744073709551616) (hc : Reads natR w vc C) (hC : ∀ c ∈ C, c < 18446744073709551616) :
    Calls Try.prog 3 #[.int .u64 z, va, vc] w fun e w' => e = .returned (.bool true) ∧ Below w.heap.size w w' := by
  obtain ⟨n, rfl, hn⟩ := natOf hz
  by_cases h : 100 < A.length ∨ C.length < 1 ∨ 60 < C.length
  · exact pieces_far w n va vc A C ha hc h
  · exact pieces_yes w n va vc A C hn ha hA hc hC (by omega) (by omega) (by omega)
end Go.Proofs.Ytkbjlpdmmbldpaa
