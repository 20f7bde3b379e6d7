/- Turn (printed by genwhturn.py). -/
import Derived.Test.YtkbjlpdmmbldpaaWhTurnL
set_option linter.unusedVariables false
set_option linter.unusedSimpArgs false
set_option maxRecDepth 100000
namespace Go.Proofs.Ytkbjlpdmmbldpaa
open Go.RowKit

def lenV : Value → Nat
  | .slice _ n _ => n
  | _ => 0
theorem nodup_lenT : ∀ {A B : List Tm}, A.Nodup → (∀ x ∈ A, x ∈ B) → A.length ≤ B.length
  | [], _, _, _ => Nat.zero_le _
  | a :: A, B, hn, hs => by
    have hn' := List.nodup_cons.1 hn
    have ha := hs a List.mem_cons_self
    have h1 := nodup_lenT (A := A) (B := B.erase a) hn'.2 (fun x hx => (List.mem_erase_of_ne (fun e => by subst e; exact hn'.1 hx)).2 (hs x (List.mem_cons_of_mem _ hx)))
    rw [List.length_erase_of_mem ha] at h1
    have := List.length_pos_of_mem ha
    simp only [List.length_cons]
    omega
theorem Part.len {L : List Tm} {to2 now nc : Nat} {Lc out : List Tm} (h : Part L to2 now nc Lc out) : out.length ≤ L.length ∧ Lc.length ≤ L.length := by
  refine ⟨nodup_lenT (h.srt.imp (fun {x y} h9 e => ?_)) (fun x hx => (h.mem x hx).1), by rw [h.rest]; exact List.length_filter_le _ _⟩
  subst e
  unfold ltT at h9
  omega
theorem TM.grow {T K K' : Nat → Prop} {w wr w' : World} {p now : Nat} {L : List Tm} {ov : Value} {out : List Tm} (h : TM T K w wr p now L ov out) (hb : Below wr.heap.size wr w') (hK : ∀ k, K' k → K k ∨ (wr.heap.size ≤ k ∧ k < w'.heap.size)) : TM T K' w w' p now L ov out := by
  have hwl : w.heap.size ≤ wr.heap.size := h.upd.size
  obtain ⟨⟨hu, ⟨T', h1, h2, h3, h4⟩, ho, hk⟩, -⟩ := h.below hb
  obtain ⟨_, ⟨T0, g1, g2, g3, g4⟩, go, _⟩ := h
  have hs := hb.size
  refine ⟨hu, ⟨T0, g1.below hb, fun k hk9 => gr_self hs (g2 k hk9), g3, fun k hk9 h9 => ?_⟩, ho, fun k hk9 => ?_⟩
  · rcases hK k hk9 with h10 | h10
    · exact g4 k h10 h9
    · have := g1.lt k h9; omega
  · rcases hK k hk9 with h10 | h10
    · exact hk k h10
    · exact ⟨fun e => by have := (go.lt k e).2; omega, by omega, h10.2⟩
theorem owns_keeps {w w' : World} {v : Value} {X : List Int} (h : Owns intR 0 w v X) (hk : ∀ k, v.ownBlock = some k → w'.heap[k]? = w.heap[k]?) : Owns intR 0 w' v X := by
  refine ⟨h.1, ?_⟩
  rcases h.2 with h9 | ⟨g, cap, cur, rfl, h1, h2, h3⟩
  · exact .inl h9
  · exact .inr ⟨g, cap, cur, rfl, h1, by rw [hk g rfl]; exact h2, h3⟩
theorem least_in : ∀ {L : List Tm}, L ≠ [] → ∃ x ∈ L, ∀ y ∈ L, x.t ≤ y.t
  | [], h => absurd rfl h
  | [a], _ => ⟨a, List.mem_cons_self, fun y hy => by simp at hy; subst hy; exact Nat.le_refl _⟩
  | a :: b :: l, _ => by
    obtain ⟨x, hx, hm⟩ := least_in (L := b :: l) (by simp)
    rcases Nat.le_total a.t x.t with h | h
    · exact ⟨a, List.mem_cons_self, fun y hy => by rcases List.mem_cons.1 hy with rfl | hy; exact Nat.le_refl _; exact Nat.le_trans h (hm y hy)⟩
    · exact ⟨x, List.mem_cons_of_mem _ hx, fun y hy => by rcases List.mem_cons.1 hy with rfl | hy; exact h; exact hm y hy⟩
def TurnP (T : Nat → Prop) (w : World) (p now : Nat) (L : List Tm) (to2 : Nat) (e : Ending) (w' : World) : Prop :=
  ∃ (ov : Value) (out : List Tm), e = .returned ov ∧ UpdP T w w' ∧ (∃ T' : Nat → Prop, WT T' w' p (max now to2) (restT L to2) ∧ (∀ k, T' k → Gr T w w' k) ∧ ∀ k, ov.ownBlock = some k → ¬ T' k) ∧ Owns timR w.heap.size w' ov out ∧ TurnOk L to2 out
theorem TM.fin {T K : Nat → Prop} {w wr : World} {p now nc nf to2 : Nat} {L Lc : List Tm} {ov : Value} {out : List Tm} (h : TM T K w wr p nf Lc ov out) (hp : Part L to2 now nc Lc out) (hall : ∀ y ∈ Lc, to2 < y.t) (hnf : nf = max now to2) : TurnP T w p now L to2 (.returned ov) wr := by
  obtain ⟨hu, ⟨T', h1, h2, h3, h4⟩, ho, hk⟩ := h
  obtain ⟨q1, q2⟩ := hp.fin hall
  rw [hnf, q2] at h1
  exact ⟨ov, out, rfl, hu, ⟨T', h1, h2, h3⟩, ho, q1⟩
def PtrBox (p : Nat) : Obj := .cells #[.pointer (some ⟨p, 0, none⟩)] 26 (0, 0)
def TickBox (m : Nat) : Obj := .cells #[.int .u64 (m : Int)] 22 (0, 0)
theorem ptrBox_cell {w : World} {q p : Nat} (h : w.heap[q]? = some (PtrBox p)) : w.cell? ⟨q, 0, none⟩ = some (.pointer (some ⟨p, 0, none⟩)) := cell_of_row w q 0 _ _ _ h
theorem tickBox_cell {w : World} {q m : Nat} (h : w.heap[q]? = some (TickBox m)) : w.cell? ⟨q, 0, none⟩ = some (.int .u64 (m : Int)) := cell_of_row w q 0 _ _ _ h
/-- Ahead of what is due: the wheel stands at the tick, or behind it. -/
def AtTick (T : Nat → Prop) (w : World) (q q6 p nn : Nat) (Lc : List Tm) (ov : Value) (out : List Tm) (m : Nat) (wx : World) : Prop :=
  TM T (fun k => k = q ∨ k = q6) w wx p nn Lc ov out ∧ wx.heap[q]? = some (PtrBox p) ∧ wx.heap[q6]? = some (TickBox m)
set_option maxHeartbeats 2000000 in
theorem turn_nil (w : World) (to2 : Nat) : Calls Try.prog 12 #[.pointer none, .int .u64 (to2 : Int)] w fun e w' => e = .returned (.slice none 0 0) ∧ Below w.heap.size w w' := by
  have hb1 : Below w.heap.size w (w.alloc (.cells #[.pointer none] 26)) := (Below.refl _ _).alloc (Nat.le_refl _) _
  have hn1 : (w.alloc (.cells #[.pointer none] 26)).heap[w.heap.size]? = some (.cells #[.pointer none] 26 (0, 0)) := heap_alloc_new _ _
  obtain ⟨W1, hW1⟩ : ∃ W1, W1 = w.alloc (.cells #[.pointer none] 26) := ⟨_, rfl⟩
  rw [← hW1] at hb1 hn1
  have HB1 := Lib.hid hb1
  have HN1 := Lib.hid hn1
  clear hb1 hn1
  go_enter Try.func12, Try.ntmps12
  go_upto_region 1 with fail
  show Code.wp _ _ _ _ (w.alloc (.cells #[.pointer none] 26))
  rw [← hW1]
  clear hW1
  go_wp2_with fail
  go_loopw [5] (fun o5 wr => o5 = .slice none 0 0 ∧ W1 = wr) (fun _ _ => 0)
  case atStart => exact ⟨rfl, rfl⟩
  case round =>
    obtain ⟨rfl, hww⟩ := hrel
    subst hww
    have cq : W1.cell? ⟨w.heap.size, 0, none⟩ = some (.pointer none) := cell_of_row W1 _ 0 _ _ _ HN1.out
    go_upto_if 22 with (go_at_call 24; refine (next_nil _).mono ?_; rintro e w' ⟨rfl, rfl⟩)
    have hb2 : Below W1.heap.size W1 (W1.alloc (.cells #[.int .u64 0] 22)) := (Below.refl _ _).alloc (Nat.le_refl _) _
    generalize W1.alloc (.cells #[.int .u64 0] 22) = W3 at hb2 ⊢
    have cq3 := below_cell hb2 cq
    clear cq
    go_wp2_with fail
    go_ret
    exact ⟨rfl, bthen' HB1.out hb2⟩

set_option maxHeartbeats 16000000 in
theorem turn_any {T : Nat → Prop} {w : World} {p now : Nat} {L : List Tm} (h : WT T w p now L) (hk0 : ∀ x ∈ L, x.k = 0) (to2 : Nat) (hto : to2 < 18446744073709551616) (hL : L.length ≤ 40000) :
    Calls Try.prog 12 #[.pointer (some ⟨p, 0, none⟩), .int .u64 (to2 : Int)] w (TurnP T w p now L to2) := by
  have hb1 : Below w.heap.size w (w.alloc (.cells #[.pointer (some ⟨p, 0, none⟩)] 26)) := (Below.refl _ _).alloc (Nat.le_refl _) _
  have hn1 : (w.alloc (.cells #[.pointer (some ⟨p, 0, none⟩)] 26)).heap[w.heap.size]? = some (PtrBox p) := heap_alloc_new _ _
  have hnod := h.nod
  have hlt := h.lt
  have hs1 : w.heap.size < (w.alloc (.cells #[.pointer (some ⟨p, 0, none⟩)] 26)).heap.size := by simp
  obtain ⟨W1, hW1⟩ : ∃ W1, W1 = w.alloc (.cells #[.pointer (some ⟨p, 0, none⟩)] 26) := ⟨_, rfl⟩
  rw [← hW1] at hb1 hn1 hs1
  obtain ⟨q, hq⟩ : ∃ q, q = w.heap.size := ⟨_, rfl⟩
  have HT0 := Lib.hid (show TM T (fun k => k = q) w W1 p now L (.slice none 0 0) [] from ⟨UpdP.ofB hb1, ⟨T, h.below hb1, fun k hk => .inl hk, fun k hk => by simp [Value.ownBlock] at hk, fun k hk h9 => by have := hlt k h9; omega⟩, Owns.nil _ _ _, fun k hk => ⟨by simp [Value.ownBlock], by omega, by omega⟩⟩)
  have HN1 := Lib.hid (show W1.heap[q]? = some (PtrBox p) from by rw [hq]; exact hn1)
  have HND := Lib.hid hnod
  have HK0 := Lib.hid hk0
  clear h hn1 hlt hs1 hb1 hnod hk0
  go_enter Try.func12, Try.ntmps12
  go_upto_region 1 with fail
  show Code.wp _ _ _ _ (w.alloc (.cells #[.pointer (some ⟨p, 0, none⟩)] 26))
  rw [← hW1, ← hq]
  clear hW1 hq
  go_wp2_with fail
  go_loopw [5] (fun o5 wr => ∃ (ov : Value) (nc : Nat) (Lc out : List Tm), o5 = ov ∧ TM T (fun k => k = q) w wr p nc Lc ov out ∧ Hid (wr.heap[q]? = some (PtrBox p)) ∧ Hid (Part L to2 now nc Lc out)) (fun o5 _ => L.length - lenV o5)
  case atStart => exact ⟨_, now, L, [], rfl, HT0.out, HN1, Lib.hid (Part.start L to2 now)⟩
  case round =>
    clear HT0 HN1
    obtain ⟨ov, nc, Lc, out, hov, hTM, HQ, HP⟩ := hrel
    have hov' := hov.symm
    clear hov
    subst hov'
    have HT := Lib.hid hTM
    obtain ⟨a5, c5, rfl⟩ := hTM.own.form
    clear hTM
    have hlen := HP.out.len
    have cq := ptrBox_cell HQ.out
    obtain ⟨T', hw1, hw2, hw3, hw4⟩ := HT.out.wt
    have kn := next_any hw1 (by omega)
    by_cases hne : Lc = []
    · have KN := Lib.hid (kn.mono (fun e w' h => (show e = .returned (.tuple #[.int .u64 0, .bool false]) ∧ Below wr.heap.size wr w' from by
        obtain ⟨hb, ⟨-, he⟩ | ⟨m, ⟨x, hx, -⟩, -⟩⟩ := h
        · exact ⟨he, hb⟩
        · rw [hne] at hx; cases hx)))
      have HALL := Lib.hid (show ∀ y ∈ Lc, to2 < y.t from by rw [hne]; simp)
      clear kn hne hw1 hw2 hw3 hw4
      go_upto_if 22 with (go_at_call 24; refine KN.out.mono ?_; rintro e W2 ⟨rfl, hb2⟩)
      have hb3 : Below wr.heap.size wr (W2.alloc (.cells #[.int .u64 0] 22)) := hb2.alloc hb2.size _
      generalize W2.alloc (.cells #[.int .u64 0] 22) = W3 at hb3 ⊢
      have HT3 := Lib.hid (HT.out.below hb3).1
      have HQ3 := Lib.hid (kept hb3 HQ.out)
      clear hb2 hb3 cq HT HQ KN
      obtain ⟨T3, hw1, hw2, hw3, hw4⟩ := HT3.out.wt
      have hw1' := hw1
      obtain ⟨-, -, -, m3, sm3, rv3, R3, hmm3, -⟩ := hw1'
      have x0 := hmm3.c0
      have x1 := ptrBox_cell HQ3.out
      have hnw := HP.out.nw
      by_cases hlast : nc < to2
      · have KM := Lib.hid (move_any hw1 to2 hlast (fun y hy => by have := HALL.out y hy; omega) hto (by omega))
        have HTU := Lib.hid (fun (w' : World) (hU : UpdP T3 W3 w') (hW : WT (Gr T3 W3 w') w' p to2 Lc) => TM.turn HT3.out.upd HT3.out.own HT3.out.kk hw2 hw3 hw4 hU hW)
        clear hw1 hw2 hw3 hw4 hmm3
        go_wp2_with (go_at_call 40; refine KM.out.mono ?_; rintro e W5 ⟨rfl, hu5, hw5⟩; have HU5 := Lib.hid hu5; have HW5 := Lib.hid hw5; clear hu5 hw5)
        go_ret
        exact (HTU.out W5 HU5.out HW5.out).1.fin HP.out HALL.out (by omega)
      · clear hw1 hw2 hw3 hw4 hmm3
        go_wp2_with fail
        go_ret
        exact HT3.out.fin HP.out HALL.out (by omega)
    · obtain ⟨m, hm1, hm2, KN⟩ : ∃ m : Nat, (∃ x ∈ Lc, x.t = m) ∧ (∀ x ∈ Lc, m ≤ x.t) ∧ Hid (Calls Try.prog 24 #[.pointer (some ⟨p, 0, none⟩)] wr fun e w' => e = .returned (.tuple #[.int .u64 (m : Int), .bool true]) ∧ Below wr.heap.size wr w') := by
        obtain ⟨x, hx, hx2⟩ := least_in hne
        refine ⟨x.t, ⟨x, hx, rfl⟩, hx2, Lib.hid (kn.mono (fun e w' h => ?_))⟩
        obtain ⟨hb, ⟨h9, -⟩ | ⟨m, ⟨y, hy, hym⟩, hmin, he⟩⟩ := h
        · exact absurd h9 hne
        · have a1 := hmin x hx
          have a2 := hx2 y hy
          obtain rfl : m = x.t := by omega
          exact ⟨he, hb⟩
      have HM1 := Lib.hid hm1
      have HM2 := Lib.hid hm2
      have hmt : m < 18446744073709551616 := by obtain ⟨x, hx, e⟩ := hm1; rw [← e]; exact hw1.ts x hx
      clear kn hne hw1 hw2 hw3 hw4 hm1 hm2
      by_cases hmto : to2 < m
      · have HALL := Lib.hid (show ∀ y ∈ Lc, to2 < y.t from fun y hy => by have := HM2.out y hy; omega)
        go_upto_if 22 with (go_at_call 24; refine KN.out.mono ?_; rintro e W2 ⟨rfl, hb2⟩)
        have hb3 : Below wr.heap.size wr (W2.alloc (.cells #[.int .u64 (m : Int)] 22)) := hb2.alloc hb2.size _
        generalize W2.alloc (.cells #[.int .u64 (m : Int)] 22) = W3 at hb3 ⊢
        have HT3 := Lib.hid (HT.out.below hb3).1
        have HQ3 := Lib.hid (kept hb3 HQ.out)
        clear hb2 hb3 cq HT HQ KN
        obtain ⟨T3, hw1, hw2, hw3, hw4⟩ := HT3.out.wt
        have hw1' := hw1
        obtain ⟨-, -, -, m3, sm3, rv3, R3, hmm3, -⟩ := hw1'
        have x0 := hmm3.c0
        have x1 := ptrBox_cell HQ3.out
        have hnw := HP.out.nw
        by_cases hlast : nc < to2
        · have KM := Lib.hid (move_any hw1 to2 hlast (fun y hy => by have := HALL.out y hy; omega) hto (by omega))
          have HTU := Lib.hid (fun (w' : World) (hU : UpdP T3 W3 w') (hW : WT (Gr T3 W3 w') w' p to2 Lc) => TM.turn HT3.out.upd HT3.out.own HT3.out.kk hw2 hw3 hw4 hU hW)
          clear hw1 hw2 hw3 hw4 hmm3
          go_wp2_with (go_at_call 40; refine KM.out.mono ?_; rintro e W5 ⟨rfl, hu5, hw5⟩; have HU5 := Lib.hid hu5; have HW5 := Lib.hid hw5; clear hu5 hw5)
          go_ret
          exact (HTU.out W5 HU5.out HW5.out).1.fin HP.out HALL.out (by omega)
        · clear hw1 hw2 hw3 hw4 hmm3
          go_wp2_with fail
          go_ret
          exact HT3.out.fin HP.out HALL.out (by omega)
      · go_upto_region 4 with (go_at_call 24; refine KN.out.mono ?_; rintro e W2 ⟨rfl, hb2⟩)
        have hb3 : Below wr.heap.size wr (W2.alloc (.cells #[.int .u64 (m : Int)] 22)) := hb2.alloc hb2.size _
        have hn3 : (W2.alloc (.cells #[.int .u64 (m : Int)] 22)).heap[W2.heap.size]? = some (TickBox m) := heap_alloc_new _ _
        have hs3 : W2.heap.size < (W2.alloc (.cells #[.int .u64 (m : Int)] 22)).heap.size := by simp
        have hs2 := hb2.size
        obtain ⟨q6, hq6⟩ : ∃ q6, q6 = W2.heap.size := ⟨_, rfl⟩
        rw [← hq6] at hn3 hs3 ⊢
        generalize W2.alloc (.cells #[.int .u64 (m : Int)] 22) = W3 at hb3 hn3 hs3 ⊢
        have HT3 := Lib.hid (HT.out.grow (K' := fun k => k = q ∨ k = q6) hb3 (fun k hk => by rcases hk with hk | hk; exact .inl hk; exact .inr ⟨by omega, by omega⟩))
        have HQ3 := Lib.hid (kept hb3 HQ.out)
        have HQ63 := Lib.hid hn3
        clear hb3 hn3 hs3 hq6 hb2 cq HT HQ KN hs2
        obtain ⟨T3, hw1, hw2, hw3, hw4⟩ := HT3.out.wt
        obtain ⟨-, -, -, m3, sm3, rv3, R3, hmm3, -⟩ := hw1
        have x0 := hmm3.c0
        have x1 := ptrBox_cell HQ3.out
        have x2 := tickBox_cell HQ63.out
        have d0 := fun (z : Later W3) => z.cell x0
        have d1 := fun (z : Later W3) => z.cell x1
        have d2 := fun (z : Later W3) => z.cell x2
        clear x0 x1 x2 hmm3 hw2 hw3 hw4
        refine wp_region_later (by kernel_rfl) (by kernel_rfl) (Below.refl _ _) ?_
        repeat (first
          | go_big_quiet_skip
          | (go_big_quiet_want; (go_big_quiet_op; go_big_quiet_on)))
        refine wpQuiet_nil ?_
        rintro ⟨W4, hb4⟩
        dsimp only
        clear d0 d1 d2
        have HT4 := Lib.hid (HT3.out.below hb4).1
        have HQ4 := Lib.hid (kept hb4 HQ3.out)
        have HQ64 := Lib.hid (kept hb4 HQ63.out)
        clear HT3 HQ3 HQ63 hb4
        go_upto_if 28 with fail
        go_cut [] (fun wx => AtTick T w q q6 p (max nc m) Lc (.slice a5 out.length c5) out m wx)
        case first =>
          have y1 := ptrBox_cell HQ4.out
          have y2 := tickBox_cell HQ64.out
          by_cases hnm : nc < m
          · obtain ⟨T4, hw1, hw2, hw3, hw4⟩ := HT4.out.wt
            have KM := Lib.hid (move_any hw1 m hnm HM2.out hmt (by omega))
            have HTU := Lib.hid (fun (w' : World) (hU : UpdP T4 W4 w') (hW : WT (Gr T4 W4 w') w' p m Lc) => TM.turn HT4.out.upd HT4.out.own HT4.out.kk hw2 hw3 hw4 hU hW)
            clear hw1 hw2 hw3 hw4
            go_wp2_with (go_at_call 40; refine KM.out.mono ?_; rintro e W5 ⟨rfl, hu5, hw5⟩; have HU5 := Lib.hid hu5; have HW5 := Lib.hid hw5; clear hu5 hw5)
            go_meet
            obtain ⟨t1, t2⟩ := HTU.out W5 HU5.out HW5.out
            rw [show m = max nc m from by omega] at t1
            exact ⟨t1, (t2 q (.inl rfl)).trans HQ4.out, (t2 q6 (.inr rfl)).trans HQ64.out⟩
          · go_wp2_with fail
            go_meet
            have t1 := HT4.out
            rw [show nc = max nc m from by omega] at t1
            exact ⟨t1, HQ4.out, HQ64.out⟩
        case rest =>
          obtain ⟨hT5, hq5, hq65⟩ := hcut
          have HT5 := Lib.hid hT5
          have HQ5 := Lib.hid hq5
          have HQ65 := Lib.hid hq65
          clear hT5 hq5 hq65 HT4 HQ4 HQ64
          obtain ⟨T5, hw1, hw2, hw3, hw4⟩ := HT5.out.wt
          have hts := hw1.nod
          obtain ⟨-, -, hnd5, m5, sm5, rv5, R5, hmm5, hro5⟩ := hw1
          obtain ⟨ar, cr, er⟩ := (hmm5.each 64 (by decide)).form
          have cro := hmm5.row (s := 64) (by decide)
          rw [er] at cro
          have cr67 : wc.cell? ⟨p, 67, none⟩ = some (.slice ar (R5 64).length cr) := cro
          have y1 := ptrBox_cell HQ5.out
          have hRl := hro5.len (s := 64) (by decide)
          have hreads := (hmm5.each 64 (by decide)).lts intOk
          rw [er] at hreads
          have KC := Lib.hid (clone_any wc _ (R5 64) hreads (by omega))
          have HT1 := Lib.hid (fun (W : World) (g : Nat) (hb : Below wc.heap.size wc W) (hg : g ≠ q ∧ g ≠ q6 ∧ ¬ T5 g) => (show Tells1 W g q q6 (fun x => decide (tauT Lc x ≠ m)) from fun W' x hu => turn1_any ((hmm5.below hb).upd hu (by simpa using hg.2.2)) q q6 m ((hu.cell (by simpa using Ne.symm hg.1)) (below_cell hb (ptrBox_cell HQ5.out))) ((hu.cell (by simpa using Ne.symm hg.2.1)) (below_cell hb (tickBox_cell HQ65.out))) x))
          have hmemY : ∀ i, i ∈ keepF (fun x => decide (tauT Lc x ≠ m)) (R5 64) ↔ ∃ x ∈ Lc, x.id = i ∧ x.t = m := fun i => by
            unfold keepF
            rw [List.mem_filter]
            constructor
            · rintro ⟨h1, h2⟩
              obtain ⟨x, hx, rfl, -⟩ := ((hro5 64 (by decide)).2 i).1 h1
              refine ⟨x, hx, rfl, ?_⟩
              simpa [tau_of hnd5 hx] using h2
            · rintro ⟨x, hx, rfl, e⟩
              refine ⟨((hro5 64 (by decide)).2 _).2 ⟨x, hx, rfl, spotN_late.2 (by omega)⟩, ?_⟩
              simpa [tau_of hnd5 hx] using e
          have hnodY : (keepF (fun x => decide (tauT Lc x ≠ m)) (R5 64)).Nodup := (hro5 64 (by decide)).1.filter _
          have HMY := Lib.hid hmemY
          have HNY := Lib.hid hnodY
          have HTL := Lib.hid hmm5.lt
          clear hmm5 hro5 hw2 hw3 hw4 cro hreads er hmemY hnodY
          have hq5lt : q < wc.heap.size := (HT5.out.kk q (.inl rfl)).2.2
          have hq65lt : q6 < wc.heap.size := (HT5.out.kk q6 (.inr rfl)).2.2
          generalize R5 64 = X5 at *
          go_upto_region 7 with (first
            | (go_at_call 42; refine KC.out.mono ?_; rintro e W6 ⟨v6, rfl, hb6, ho6⟩; have HB6 := Lib.hid hb6; have HO6 := Lib.hid ho6; clear hb6 ho6; have KD := Lib.hid (delF_any W6 v6 X5 q q6 wc.heap.size (fun x => decide (tauT Lc x ≠ m)) HO6.out (fun g hg => by
                have hg2 := (HO6.out.lt g hg).1
                exact HT1.out W6 g HB6.out ⟨by omega, by omega, fun h9 => by have := HTL.out g h9; omega⟩) wc.heap.size (HT1.out W6 wc.heap.size HB6.out ⟨by omega, by omega, fun h9 => by have := HTL.out _ h9; omega⟩) (by omega)))
            | (go_at_call 41; refine KD.out.mono ?_; rintro e W7 ⟨v7, rfl, ho7, F7, hF7, hu7⟩; have HO7 := Lib.hid ho7; have HU7 := Lib.hid (show Below wc.heap.size wc W7 from hu7.toBelow HB6.out HB6.out.size (fun g hg => (HO6.out.lt g (hF7 g hg)).1)); clear ho7 hu7 hF7))
          obtain ⟨a7, c7, e7⟩ := HO7.out.form
          subst e7
          have hYne : keepF (fun x => decide (tauT Lc x ≠ m)) X5 ≠ [] := by
            obtain ⟨x, hx, e⟩ := HM1.out
            exact List.ne_nil_of_mem ((HMY.out x.id).2 ⟨x, hx, rfl, e⟩)
          have hkl := keepF_len (fun x => decide (tauT Lc x ≠ m)) X5
          have ks := sortF_any W7 _ _ wc.heap.size HO7.out hYne (by omega)
          obtain ⟨n7, hn7⟩ : ∃ n7, n7 = (keepF (fun x => decide (tauT Lc x ≠ m)) X5).length := ⟨_, rfl⟩
          rw [← hn7] at ks ⊢
          have HN7 := Lib.hid hn7
          have KS := Lib.hid ks
          clear KC HT1 KD hYne ks hn7 hkl
          go_upto_region 8 with (go_at_call 44; refine KS.out.mono ?_; rintro e W8 ⟨rfl, Y, hperm, hpw, hO8, F8, hF8, hu8⟩; have HPE := Lib.hid hperm; have HPW := Lib.hid hpw; have HO8 := Lib.hid hO8; have HU8 := Lib.hid (show Below wc.heap.size wc W8 from hu8.toBelow HU7.out HU7.out.size (fun g hg => (HO8.out.lt g (hF8 g hg)).1)); clear hperm hpw hO8 hF8 hu8)
          obtain rfl : n7 = Y.length := by rw [HN7.out]; exact HPE.out.length_eq.symm
          have HDue := Lib.hid (show DueAt Lc m Y from ⟨((HPW.out.and (HPE.out.nodup_iff.2 HNY.out)).imp (fun {a b} h9 => by have h10 := h9.1; have h11 : a ≠ b := h9.2; omega)), fun i => (HPE.out.mem_iff).trans (HMY.out i)⟩)
          have HT8 := Lib.hid (HT5.out.grow (K' := fun k => k = q ∨ k = q6 ∨ (Value.slice a7 Y.length c7).ownBlock = some k) HU8.out (fun k hk => by
            rcases hk with hk | hk | hk
            · exact .inl (.inl hk)
            · exact .inl (.inr hk)
            · exact .inr (HO8.out.lt k hk)))
          have HQ8 := Lib.hid (kept HU8.out HQ5.out)
          have HQ68 := Lib.hid (kept HU8.out HQ65.out)
          have HOY := Lib.hid (HO8.out.mono (Nat.zero_le _))
          have hYlen : Y.length ≤ 40000 := by have a1 := HPE.out.length_eq; have a2 := keepF_len (fun x => decide (tauT Lc x ≠ m)) X5; omega
          have HYpos := Lib.hid (show 0 < Y.length from by
            obtain ⟨x, hx, e⟩ := HM1.out
            exact List.length_pos_of_mem ((HDue.out.mem x.id).2 ⟨x, hx, rfl, e⟩))
          clear HT5 HQ5 HQ65 HB6 HO6 HO7 HU7 HU8 HO8 HPE HPW HMY HNY HTL HN7 KS hts hnd5 cr67 y1
          go_upto_block 2 with fail
          go_wp2_with fail
          go_loopw [5, 45] (fun o5 i wr => ∃ (ov : Value) (k : Nat), o5 = ov ∧ k ≤ Y.length ∧ i = .int .i64 k ∧ TM T (fun k => k = q ∨ k = q6 ∨ (Value.slice a7 Y.length c7).ownBlock = some k) w wr p (max nc m) (butAll Lc (Y.take k)) ov (out ++ (Y.take k).map (mkT m)) ∧ Hid (wr.heap[q]? = some (PtrBox p)) ∧ Hid (wr.heap[q6]? = some (TickBox m)) ∧ Hid (Owns intR 0 wr (.slice a7 Y.length c7) Y)) (fun _ i _ => Y.length - (intOf i).toNat)
          case atStart => exact ⟨_, 0, rfl, by omega, rfl, by rw [List.take_zero, butAll_nil, List.map_nil, List.append_nil]; exact HT8.out, HQ8, HQ68, HOY⟩
          case round =>
            clear HT8 HQ8 HQ68 HOY
            obtain ⟨ov, k, hov, hk, rfl, hTM, HQ8, HQ68, HOY⟩ := hrel
            have hov' := hov.symm
            clear hov
            subst hov'
            have HT8 := Lib.hid hTM
            clear hTM
            by_cases hlt : k < Y.length
            · obtain ⟨i, hi⟩ : ∃ i, Y[k]? = some i := ⟨_, List.getElem?_eq_getElem hlt⟩
              obtain ⟨b, off, rfl, hr⟩ := (HOY.out.lts intOk).at hi
              have kx := int_cell hr
              have y6 := tickBox_cell HQ68.out
              have HI := Lib.hid hi
              have hol : (out ++ (Y.take k).map (mkT m)).length ≤ 80000 := by rw [List.length_append, List.length_map, List.length_take]; omega
              have hTs := HT8.out.upd.size
              clear hi hr
              go_upto_region 12 with (first
                | (refine wl_build_rec timOk rfl _ rfl (mkT m i) rfl ?_; have hx9 := built_range (R := timR) (w := wr) (mkT m i); have hb9 : Below wr.heap.size wr (wr.alloc (.cells (timR.val (mkT m i)).cells timR.ty)) := (Below.refl _ _).alloc (Nat.le_refl _) _; generalize wr.alloc (.cells (timR.val (mkT m i)).cells timR.ty) = W9 at hx9 hb9 ⊢; have HX9 := Lib.hid hx9; have HB9 := Lib.hid hb9; have HT9 := Lib.hid (HT8.out.below hb9).1; have hs9 := hb9.size; clear hx9 hb9)
                | (refine wl_append_rec timOk rfl _ _ rfl w.heap.size ov (out ++ (Y.take k).map (mkT m)) rfl HT9.out.own wr.heap.size 0 1 (mkT m i) rfl HX9.out (by omega) (by omega) ?_; intro g10 c10 W10 ho10 hg10 hat10; have HO10 := Lib.hid ho10; have HG10 := Lib.hid hg10; have HAT := Lib.hid hat10; clear ho10 hg10 hat10))
              have hTout := HT9.out.out HO10.out HG10.out HAT.out
              have HT10 := Lib.hid hTout.1
              have HKe := Lib.hid hTout.2
              have HQ10 := Lib.hid ((HKe.out q (.inl rfl)).trans (kept HB9.out HQ8.out))
              have HQ610 := Lib.hid ((HKe.out q6 (.inr (.inl rfl))).trans (kept HB9.out HQ68.out))
              have HOY10 := Lib.hid (owns_keeps (HOY.out.below HB9.out) (fun k hk => HKe.out k (.inr (.inr hk))))
              clear hTout HKe HQ8 HQ68 HOY HO10 HG10 HAT HT9 HX9 HB9 HT8 y6 kx
              obtain ⟨T10, hw1, hw2, hw3, hw4⟩ := HT10.out.wt
              have KD := Lib.hid (drop_any hw1 i (by have a1 : (butAll Lc (Y.take k)).length ≤ Lc.length := List.length_filter_le _ _; omega))
              have HTU := Lib.hid (fun (w' : World) (hU : UpdP T10 W10 w') (hW : WT (Gr T10 W10 w') w' p (max nc m) (butT (butAll Lc (Y.take k)) i)) => TM.turn HT10.out.upd HT10.out.own HT10.out.kk hw2 hw3 hw4 hU hW)
              have y1 := ptrBox_cell HQ10.out
              clear hw1 hw2 hw3 hw4
              go_wp2_with (go_at_call 19; refine KD.out.mono ?_; rintro e W11 ⟨rfl, hu11, hw11⟩; have HU11 := Lib.hid hu11; have HW11 := Lib.hid hw11; clear hu11 hw11)
              have hTt := HTU.out W11 HU11.out HW11.out
              have HT11 := Lib.hid hTt.1
              have HK11 := Lib.hid hTt.2
              have HQ11 := Lib.hid ((HK11.out q (.inl rfl)).trans HQ10.out)
              have HQ611 := Lib.hid ((HK11.out q6 (.inr (.inl rfl))).trans HQ610.out)
              have HOY11 := Lib.hid (owns_keeps HOY10.out (fun k hk => HK11.out k (.inr (.inr hk))))
              clear hTt
              go_roundw
              case rel => exact ⟨_, k + 1, rfl, by omega, by go_num, by
                have h9 := HT11.out
                rw [show (out ++ (Y.take k).map (mkT m)).length = out.length + k from by rw [List.length_append, List.length_map, List.length_take]; omega] at h9
                rw [butAll_snoc, take_snoc HI.out, List.append_assoc] at h9
                have e : (Y.take k).map (mkT m) ++ [mkT m i] = (Y.take (k + 1)).map (mkT m) := by rw [← take_snoc HI.out, List.map_append]; rfl
                rw [e] at h9
                exact h9, HQ11, HQ611, HOY11⟩
              case measure => simp [intOf]; omega
            · obtain rfl : k = Y.length := by omega
              have hTf := HT8.out
              rw [List.take_length] at hTf
              have HTf := Lib.hid (show TM T (fun k => k = q) w wr p (max nc m) (butAll Lc Y) ov (out ++ Y.map (mkT m)) from hTf.grow (Below.refl _ _) (fun k hk => .inl (.inl hk)))
              have HPS := Lib.hid (HP.out.step HND.out HK0.out HM2.out (by omega) HDue.out)
              have hlen2 := HPS.out.len.1
              have hpos := HYpos.out
              rw [List.length_append, List.length_map] at hlen2
              obtain ⟨af, cf, ef⟩ := HTf.out.own.form
              subst ef
              clear hTf HT8
              go_wp2_with fail
              go_roundw
              case rel => exact ⟨_, _, _, _, rfl, HTf.out, HQ8, HPS⟩
              case measure => simp [lenV]; omega

end Go.Proofs.Ytkbjlpdmmbldpaa
