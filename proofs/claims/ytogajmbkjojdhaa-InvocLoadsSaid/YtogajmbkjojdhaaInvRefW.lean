/- The document's invocations in memory; Close, turn. -/
import Derived.Test.YtogajmbkjojdhaaInvRef
import Derived.Test.YtogajmbkjojdhaaTreeT
import Derived.Test.YtogajmbkjojdhaaTwoApp
set_option linter.unusedVariables false
set_option linter.unusedSimpArgs false
set_option maxRecDepth 100000
namespace Go.Proofs.Ytogajmbkjojdhaa
open Go.RowKit

theorem wl_build_none_rec {α : Type} {R : Rec α} (k : R.Ok) {ops : Array Oper} {rest : List Oper} {o : Oper} {a : Act} {w : World} {Q : Exit → Act → World → Prop} (hgd : o.guard = none) (ho : o.op = .buildSlice R.st 0 #[])
    (h : wpList Try.prog ops Q rest (a.put o.dst (.slice (some ⟨w.heap.size, 0, none⟩) 0 0)) (w.alloc (.cells #[] R.ty))) : wpList Try.prog ops Q (o :: rest) a w :=
  wpList_plain hgd fun _ hK2 => wp_build_none_rec k ho (hK2 _ _ h)
theorem owns_cel {α : Type} {R : Rec α} {B : Nat} {w : World} {g n cap : Nat} {L : List α} (h : Owns R B w (.slice (some ⟨g, 0, none⟩) n cap) L) : Cel w g (L.flatMap R.cells) := by
  rcases h.2 with ⟨h1, _⟩ | ⟨g', cap', cur, h1, hb, hg, hn, hm, hs, ht⟩
  · cases h1
  · simp only [Value.slice.injEq, Option.some.injEq, Addr.mk.injEq] at h1
    obtain ⟨⟨rfl, -, -⟩, -, -⟩ := h1
    intro i v hv
    refine ⟨?_, by unfold World.frozen?; simp only [hg]; simp⟩
    rw [cell_of_row w g i cur _ (0, 0) hg]
    rw [← ht, List.getElem?_take] at hv
    split at hv
    · simpa using hv
    · cases hv
/-- The document's invocations in memory: a block, and a slice that lies in no block of N. -/
structure RI (N : Nat → Prop) (w : World) (r : Nat) (c : Cfg) (last : Int) (L : List Iv) : Prop where
  mem : ∃ v, Cel w r (refCells c last v) ∧ ReadsN ivR N w v L
  nr : N r
  lt : ∀ k, N k → k < w.heap.size
theorem RI.updP {N T : Nat → Prop} {w w' : World} {r : Nat} {c : Cfg} {last : Int} {L : List Iv} (h : RI N w r c last L) (hu : UpdP T w w') (hT : ∀ k, T k → N k) (hr : ¬ T r) : RI N w' r c last L := by
  obtain ⟨⟨v, h1, h2⟩, h3, h4⟩ := h
  exact ⟨⟨v, cel_updP h1 hu hr (h4 r h3), h2.updP hu hT⟩, h3, fun k hk => Nat.lt_of_lt_of_le (h4 k hk) hu.size⟩
theorem RI.below {N : Nat → Prop} {w w' : World} {r : Nat} {c : Cfg} {last : Int} {L : List Iv} (h : RI N w r c last L) (hb : Below w.heap.size w w') : RI N w' r c last L :=
  h.updP (T := fun _ => False) (UpdP.ofB hb) (fun _ hk => hk.elim) (fun hk => hk)
def RP (N : Nat → Prop) (w : World) (r : Nat) (c : Cfg) (last : Int) (L : List Iv) (w' : World) : Prop := UpdP (fun k => k = r) w w' ∧ RI N w' r c last L
theorem RI.same {N : Nat → Prop} {w w' : World} {r : Nat} {c : Cfg} {last : Int} {L : List Iv} (h : RI N w r c last L) (hb : Below w.heap.size w w') : RP N w r c last L w' := ⟨UpdP.ofB hb, h.below hb⟩
/-- The list is a new one, in a new block. -/
theorem RI.setL {N : Nat → Prop} {w w1 w2 : World} {r : Nat} {c : Cfg} {last : Int} {L L2 : List Iv} {v u : Value} (h : RI N w r c last L) (hu : UpdP (fun k => k = r) w w1) (hc : Cel w1 r (refCells c last v)) (hL : ReadsN ivR N w1 u L2) (e : w2 = w1.setCell ⟨r, 20, none⟩ u) : RP N w r c last L2 w2 := by
  subst e
  have hu1 : Upd [r] w1 (w1.setCell ⟨r, 20, none⟩ u) := (Upd.refl [r] _).setCell (by simp) _
  have hu2 : UpdP (fun k => k = r) w1 (w1.setCell ⟨r, 20, none⟩ u) := UpdP.of hu1 (fun k hk => .inl (by simpa using hk))
  have hs := hu.size
  have hs2 := hu2.size
  refine ⟨wt_gr hu hu2, ⟨u, hc.set 20 u, hL.updP hu2 (fun k hk => by subst hk; exact h.nr)⟩, h.nr, fun k hk => ?_⟩
  have := h.lt k hk
  omega
theorem closeI_none {L : List Iv} {n : Int} (h : fNo L n = none) : closeI L n = 7 ∧ CloseL L n = L := by
  have h1 : closeI L n = 7 := by unfold closeI; rw [h]
  exact ⟨h1, by unfold CloseL; rw [h1, if_neg (by decide)]⟩
theorem drop_step {L : List Iv} {n : Int} {j : Nat} {y : Iv} (hy : L[j]? = some y) : dropI (L.take (j + 1)) n = dropI (L.take j) n ++ (if y.no = n then [] else [y]) := by
  unfold dropI
  rw [← take_snoc hy, List.filter_append]
  by_cases h : y.no = n
  · rw [if_pos h, List.filter_cons, if_neg (by simp [isNo, h])]; rfl
  · rw [if_neg h, List.filter_cons, if_pos (by simp [isNo, h])]; rfl
theorem drop_le (L : List Iv) (n : Int) : (dropI L n).length ≤ L.length := List.length_filter_le _ _
set_option maxHeartbeats 8000000 in
theorem rclose_any {N : Nat → Prop} {w : World} {r : Nat} {c : Cfg} {last : Int} {L : List Iv} (h : RI N w r c last L) (hasc : L.Pairwise fun x y => x.no < y.no) (hL : L.length ≤ 100000) (n : Int) :
    Calls Try.prog 34 #[.pointer (some ⟨r, 0, none⟩), .int .i64 n] w fun e w' => e = .returned (.int .i64 (closeI L n)) ∧ RP N w r c last (CloseL L n) w' := by
  obtain ⟨v, hc, hr⟩ := h.mem
  have H := Lib.hid h
  have HC := Lib.hid hc.range
  have KN := Lib.hid (rno_any w c last v L hr.reads hL n)
  rcases ixB_cases (isNo n) L with ⟨h1, h2⟩ | ⟨k, x, h1, hx, h3⟩
  · obtain ⟨e1, e2⟩ := closeI_none (L := L) (n := n) h2
    rw [e1, e2]
    rw [h1] at KN
    clear h hc hr h1 h2 e1 e2 hasc
    go_enter Try.func34, Try.ntmps34
    go_wp2_with (first
      | (refine wpList_load_mid rfl 53 _ rfl r 0 rfl (refCells c last v) _ HC.out Try.underlying53 rfl (vRow c last _) ?_)
      | (go_at_call 40; refine KN.out.mono ?_; rintro e W2 ⟨rfl, hb2⟩))
    go_ret
    exact ⟨rfl, H.out.same hb2⟩
  · obtain ⟨hxL, hxn⟩ := fNo_mem (show fNo L n = some x from h3)
    have hkl := (List.getElem?_eq_some_iff.1 hx).1
    rw [h1] at KN
    obtain ⟨av, capv, rfl⟩ := hr.reads.form
    by_cases h0 : 0 < x.ld
    · have e1 : closeI L n = 10 := by unfold closeI; rw [show fNo L n = some x from h3]; exact if_pos h0
      have e2 : CloseL L n = L := by unfold CloseL; rw [e1, if_neg (by decide)]
      rw [e1, e2]
      have HV := Lib.hid (fun (W : World) (hb : Below w.heap.size w W) => (hr.reads.below hb).at hx)
      have HC20 := Lib.hid (fun (W : World) (hb : Below w.heap.size w W) => (hc.below hb).get (i := 20) rfl)
      have q1 : decide (x.ld > 0) = true := by simp; omega
      have q1' : decide (0 < x.ld) = true := by simp; omega
      clear h hc hr h1 h3 e1 e2 hasc hx hxL hxn h0
      go_enter Try.func34, Try.ntmps34
      go_upto_region 4 with (first
        | (refine wpList_load_mid rfl 53 _ rfl r 0 rfl (refCells c last _) _ HC.out Try.underlying53 rfl (vRow c last _) ?_)
        | (go_at_call 40; refine KN.out.mono ?_; rintro e W2 ⟨rfl, hb2⟩))
      obtain ⟨b, off, rfl, hrx⟩ := HV.out _ hb2
      have c20 := HC20.out _ hb2
      obtain ⟨-, -, -, -, y4⟩ := ivk_parts hrx
      clear hrx
      go_wp2_with fail
      go_ret
      exact ⟨rfl, H.out.same hb2⟩
    · have e1 : closeI L n = 0 := by unfold closeI; rw [show fNo L n = some x from h3]; exact if_neg h0
      have e2 : CloseL L n = dropI L n := by unfold CloseL; rw [e1, if_pos rfl]
      rw [e1, e2]
      have HV := Lib.hid (fun (W : World) (hb : Below w.heap.size w W) => (hr.reads.below hb).at hx)
      have HVV := Lib.hid (fun (W : World) (hb : Below w.heap.size w W) => (hr.reads.below hb))
      have HCL := Lib.hid hc
      have q1 : decide (x.ld > 0) = false := by simp; omega
      have q1' : decide (0 < x.ld) = false := by simp; omega
      have HNO := Lib.hid (fun (j : Nat) (y : Iv) (hy : L[j]? = some y) => show y.no = n ↔ j = k from by
        constructor
        · intro e
          have hj := (List.getElem?_eq_some_iff.1 hy).1
          have ey := (List.getElem?_eq_some_iff.1 hy).2
          have ex := (List.getElem?_eq_some_iff.1 hx).2
          have hp := List.pairwise_iff_getElem.1 hasc
          rcases Nat.lt_trichotomy j k with h9 | h9 | h9
          · have := hp j k hj hkl h9; rw [ey, ex] at this; omega
          · exact h9
          · have := hp k j hkl hj h9; rw [ey, ex] at this; omega
        · rintro rfl
          rw [hx] at hy
          obtain rfl := Option.some.inj hy
          exact hxn)
      clear h hc hr h1 h3 e1 e2 hasc hx hxL hxn h0
      go_enter Try.func34, Try.ntmps34
      go_upto_region 4 with (first
        | (refine wpList_load_mid rfl 53 _ rfl r 0 rfl (refCells c last _) _ HC.out Try.underlying53 rfl (vRow c last _) ?_)
        | (go_at_call 40; refine KN.out.mono ?_; rintro e W2 ⟨rfl, hb2⟩))
      obtain ⟨b, off, rfl, hrx⟩ := HV.out _ hb2
      have c20 := (HCL.out.below hb2).get (i := 20) rfl
      obtain ⟨-, -, -, -, y4⟩ := ivk_parts hrx
      clear hrx
      go_upto_region 6 with fail
      have hO0 := Owns.made (R := ivR) (w := W2) (B := W2.heap.size) (Nat.le_refl _)
      have hb3 : Below W2.heap.size W2 (W2.alloc (.cells #[] ivR.ty)) := (Below.refl _ _).alloc (Nat.le_refl _) _
      clear y4 c20
      go_upto_region 7 with (refine wl_build_none_rec ivOk rfl rfl ?_; generalize W2.alloc (.cells #[] ivR.ty) = W3 at hO0 hb3 ⊢)
      have HB2 := Lib.hid hb2
      have HB3 := Lib.hid hb3
      have HO0 := Lib.hid hO0
      have hs2 := hb2.size
      clear hb2 hb3 hO0
      go_wp2_with fail
      go_loopw [6, 7] (fun u i wr => ∃ j : Nat, j ≤ L.length ∧ i = .int .i64 j ∧ Below W2.heap.size W2 wr ∧ Owns ivR W2.heap.size wr u (dropI (L.take j) n)) (fun _ i _ => L.length - lenI i)
      case atStart => exact ⟨0, by omega, rfl, HB3.out, HO0.out⟩
      case round =>
        clear HO0
        obtain ⟨j, hj, rfl, hW, hO⟩ := hrel
        have HO := Lib.hid hO
        have hwr := hW.size
        have hWw := bthen' HB2.out hW
        have c20 := (HCL.out.below hWw).get (i := 20) rfl
        have hdl := drop_le (L.take j) n
        rw [List.length_take] at hdl
        obtain ⟨a5, c5, rfl⟩ := hO.form
        clear hO
        by_cases hlt : j < L.length
        · obtain ⟨y, hy⟩ : ∃ y, L[j]? = some y := ⟨_, List.getElem?_eq_getElem hlt⟩
          have hno := HNO.out j y hy
          have HST := Lib.hid (drop_step (n := n) hy)
          obtain ⟨b1, o1, e1, r1⟩ := (HVV.out _ hWw).at hy
          simp only [Option.some.injEq, Addr.mk.injEq] at e1
          obtain ⟨rfl, rfl, -⟩ := e1
          clear hy
          by_cases hjk : j = k
          · have q2 : ((j : Int) != (k : Int)) = false := by simp [hjk]
            have HST2 := Lib.hid (show dropI (L.take (j + 1)) n = dropI (L.take j) n from by rw [HST.out, if_pos (hno.2 hjk), List.append_nil])
            clear hno hjk
            go_wp2_with fail
            go_roundw
            case rel => exact ⟨j + 1, by omega, by go_num, hW, by rw [HST2.out]; exact HO.out⟩
            case measure => simp [lenI]; omega
          · have q2 : ((j : Int) != (k : Int)) = true := by simp; omega
            have HST2 := Lib.hid (show dropI (L.take (j + 1)) n = dropI (L.take j) n ++ [y] from by rw [HST.out, if_neg (fun e => hjk (hno.1 e))])
            clear hno hjk
            go_wp2_with (first
              | (refine wpList_load_mid rfl 32 _ rfl b (off + j * ivR.n) rfl (ivR.cells y) _ r1 Try.underlying32 rfl (ivOk.row y) ?_)
              | (refine wl_build_rec ivOk rfl _ rfl y rfl ?_; have hx5 := built_range (R := ivR) (w := wr) y; have hb5 : Below wr.heap.size wr (wr.alloc (.cells (ivR.val y).cells ivR.ty)) := (Below.refl _ _).alloc (Nat.le_refl _) _; generalize wr.alloc (.cells (ivR.val y).cells ivR.ty) = W5 at hx5 hb5 ⊢; have hOo := HO.out.below hb5; have hszT := hb5.size)
              | (refine wl_append_rec ivOk rfl _ _ rfl W2.heap.size _ _ rfl hOo wr.heap.size 0 1 y rfl hx5 (by omega) (by omega) ?_; intro g6 cap W6 hO6 hg6 hat6; have hW6 := (bthen' hW hb5).grown hg6 (by omega) (fun k hk => (hOo.lt k hk).1)))
            rw [← HST2.out] at hO6
            go_roundw
            case rel => exact ⟨j + 1, by omega, by go_num, hW6, hO6⟩
            case measure => simp [lenI]; omega
        · obtain rfl : j = L.length := by omega
          rw [List.take_length] at HO
          have HCW := Lib.hid (HCL.out.below hWw)
          have g20 := HCW.out.get (i := 20) rfl
          have g20f := HCW.out.free (i := 20) rfl
          have HRN := Lib.hid (show ReadsN ivR N wr _ (dropI L n) from HO.out.readsN ivOk fun k h1 h2 h3 => by have := H.out.lt k h3; omega)
          have HUW := Lib.hid (show UpdP (fun k => k = r) w wr from UpdP.ofB hWw)
          rw [List.take_length]
          clear hWw hW c20
          go_wp2_with fail
          go_ret
          exact ⟨rfl, H.out.setL HUW.out HCW.out HRN.out rfl⟩
end Go.Proofs.Ytogajmbkjojdhaa
