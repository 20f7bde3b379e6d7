/- Invocations that are new; the page's example. -/
import Derived.Test.YtogajmbkjojdhaaInvNew
set_option linter.unusedVariables false
set_option linter.unusedSimpArgs false
set_option maxRecDepth 100000
namespace Go.Proofs.Ytogajmbkjojdhaa
open Go.RowKit

/-- Invocations that are new. -/
structure InvS (w wr : World) (v nm lm : Nat) (c : Cfg) (last : Int) (L : List Iv) : Prop where
  low : Below w.heap.size w wr
  new : w.heap.size ≤ v ∧ w.heap.size ≤ nm ∧ w.heap.size ≤ lm
  mem : InvM wr v nm lm c last L
  ok : InvOk c last L
namespace InvS
variable {w wr w' : World} {v nm lm : Nat} {c : Cfg} {last last2 : Int} {L L2 : List Iv}
theorem below' (h : InvS w wr v nm lm c last L) (hb : Below wr.heap.size wr w') : InvS w w' v nm lm c last L := ⟨bthen' h.low hb, h.new, h.mem.below hb, h.ok⟩
theorem step (h : InvS w wr v nm lm c last L) (hu : UpdP (InvB v nm lm) wr w') (hm : InvM w' v nm lm c last2 L2) (ho : InvOk c last2 L2) : InvS w w' v nm lm c last2 L2 :=
  ⟨hu.toB h.low h.low.size (fun k hk => by have := h.new; rcases hk with rfl | rfl | rfl <;> omega), h.new, hm, ho⟩
end InvS
def SOpen (w : World) (v nm lm : Nat) (c : Cfg) (last : Int) (L : List Iv) (r e1 : Int) (e : Ending) (w' : World) : Prop := e = .returned (.tuple #[.int .i64 r, .int .i64 e1]) ∧ InvS w w' v nm lm c last L
def SDone (w : World) (v nm lm : Nat) (c : Cfg) (last : Int) (L : List Iv) (r : Int) (e : Ending) (w' : World) : Prop := e = .returned (.int .i64 r) ∧ InvS w w' v nm lm c last L
section
variable {w wr : World} {v nm lm : Nat} {c : Cfg} {last : Int} {L : List Iv}
theorem sopen (h : InvS w wr v nm lm c last L) (hin : c.In w) (hcap : 0 ≤ c.cap) (t : Int) (s : ByteArray) (wt : Int) (hs : s.size ≤ 9223372036854775807) (hL : L.length ≤ 10000) (hl : last + 1 < 9223372036854775807) :
    Calls Try.prog 10 #[.pointer (some ⟨v, 0, none⟩), .int .i64 t, .string s, .int .i64 wt] wr (SOpen w v nm lm c (openN c last L t s wt) (openL c last L t s wt) (openR c last L t s wt) (chkI c L t s wt)) :=
  (open_any h.mem (hin.below h.low) h.ok t s wt hs hL hl).mono (by rintro e w' ⟨rfl, hu, hm⟩; exact ⟨rfl, h.step hu hm (h.ok.open hcap t s wt hs hl)⟩)
theorem CloseL.ok {c : Cfg} {last : Int} {L : List Iv} (h : InvOk c last L) (n : Int) : InvOk c last (CloseL L n) := by
  unfold CloseL
  split
  · exact h.drop n
  · exact h
theorem sclose (h : InvS w wr v nm lm c last L) (n : Int) : Calls Try.prog 12 #[.pointer (some ⟨v, 0, none⟩), .int .i64 n] wr (SDone w v nm lm c last (CloseL L n) (closeI L n)) :=
  (close_any h.mem h.ok n).mono (by rintro e w' ⟨rfl, hu, hm⟩; exact ⟨rfl, h.step hu hm (CloseL.ok h.ok n)⟩)
theorem sadmit (h : InvS w wr v nm lm c last L) (hin : c.In w) (n : Int) (hL : L.length ≤ 10000) : Calls Try.prog 13 #[.pointer (some ⟨v, 0, none⟩), .int .i64 n] wr (SDone w v nm lm c last (admitL c L n) (roomI c L n)) :=
  (admit_any h.mem (hin.below h.low) h.ok n (by omega)).mono (by rintro e w' ⟨rfl, hu, hm⟩; exact ⟨rfl, h.step hu hm (h.ok.admits n)⟩)
theorem sleave (h : InvS w wr v nm lm c last L) (n : Int) : Calls Try.prog 14 #[.pointer (some ⟨v, 0, none⟩), .int .i64 n] wr fun e w' => e = .returned (.bool (leaveB L n)) ∧ InvS w w' v nm lm c last (leaveL L n) :=
  (leave_any h.mem h.ok n).mono (by rintro e w' ⟨rfl, hu, hm⟩; exact ⟨rfl, h.step hu hm (h.ok.leave n)⟩)
end
theorem num31_any (w : World) (z : Int) : Calls Try.prog 17 #[.int .i64 z] w fun e w' => e = .returned (.int .i64 z) ∧ w = w' := by
  go_enter Try.func17, Try.ntmps17
  go_wp2_with fail
  go_ret
  exact ⟨rfl, rfl⟩
theorem freshC_cel (w : World) (c : Cfg) : Cel (freshC w c) w.heap.size c.cells := by
  have h := (Cel.new w 25 zeroC.cells).sets c.cells 0
  exact h
def oneC1 (b : Nat) : Cfg := { oneC b with cap := 1 }
theorem one1_check (b : Nat) : checkv (oneC1 b) = 0 := by
  have h : tensv (oneC1 b).T = 0 := by
    rw [tensv_some (T := (oneC1 b).T) (show 1 ≤ 1 from by decide) (show 1 ≤ 6 from by decide)]
    show tensF [] [⟨⟨#[97]⟩, 1, 9⟩] = 0
    rw [tensF, tenv_ok one_name (by decide) (by decide), if_neg (by decide), if_neg (by decide), tensF]
  exact checkv_ok h (by show ¬ 3 < 0; omega) rfl (by rw [spans_abd]; rfl)
def iI : ByteArray := ⟨#[105]⟩
theorem i_name : nameB iI.data.toList = true := by
  first | kernel_rfl | decide | simp [nameB]
def L1 : List Iv := [⟨1, 0, iI, 1, 0⟩]
def L2 : List Iv := [⟨1, 0, iI, 1, 1⟩]
theorem chk_one (b : Nat) : chkI (oneC1 b) [] 0 iI 1 = 0 := by
  rw [chk_cases, if_neg (by decide), if_neg (by show ¬ (1 : Int) ≤ 0; decide), if_neg (by rw [i_name]; decide), if_neg (by decide), if_neg (by show ¬ (2 : Int) < 1; decide), if_neg (by simp [fNm]), if_neg (by show ¬ (2 : Int) ≤ 0; decide)]
theorem open_one (b : Nat) : openN (oneC1 b) 0 [] 0 iI 1 = 1 ∧ openL (oneC1 b) 0 [] 0 iI 1 = L1 ∧ openR (oneC1 b) 0 [] 0 iI 1 = 1 := by
  unfold openN openL openR
  rw [chk_one]
  simp [L1]
theorem room_one (b : Nat) : roomI (oneC1 b) L1 1 = 0 ∧ admitL (oneC1 b) L1 1 = L2 := by
  have h : roomI (oneC1 b) L1 1 = 0 := rfl
  exact ⟨h, by unfold admitL; rw [h, if_pos rfl]; rfl⟩
theorem room_two (b : Nat) : roomI (oneC1 b) L2 1 = 13 ∧ admitL (oneC1 b) L2 1 = L2 := by
  have h : roomI (oneC1 b) L2 1 = 13 := rfl
  exact ⟨h, by unfold admitL; rw [h, if_neg (by decide)]⟩
theorem close_two : closeI L2 1 = 10 ∧ CloseL L2 1 = L2 := by
  have h : closeI L2 1 = 10 := rfl
  exact ⟨h, by unfold CloseL; rw [h, if_neg (by decide)]⟩
theorem leave_two : leaveB L2 1 = true ∧ leaveL L2 1 = L1 := by
  have h : leaveB L2 1 = true := rfl
  exact ⟨h, by unfold leaveL; rw [h, if_pos rfl]; rfl⟩
theorem close_one : closeI L1 1 = 0 := rfl
set_option maxHeartbeats 4000000 in
theorem live31_any (w : World) : Calls Try.prog 8 #[] w fun e w' => e = .returned (.bool true) ∧ Below w.heap.size w w' := by
  have KO := Lib.hid (one_any w)
  go_enter Try.func8, Try.ntmps8
  go_upto_region 2 with (first
    | (refine wpList_store_mid rfl 25 _ _ rfl W1.heap.size 0 (oneC b).cells.toArray rfl rfl (freshC_there W1 _) (cfgRow' _) (cfg_one _ rfl rfl) ?_; show wpList _ _ _ _ _ (freshC W1 (oneC b)); have hc3 := freshC_cel W1 (oneC b); have hb3 := freshC_below W1 (oneC b); generalize freshC W1 (oneC b) = W3 at hc3 hb3 ⊢; have HI3 := hi1.below hb3)
    | (go_at_call 27; refine KO.out.mono ?_; rintro e W1 ⟨b, rfl, hb1, hi1⟩))
  have hs1 := hb1.size
  obtain ⟨q, hq⟩ : ∃ q, q = W1.heap.size := ⟨_, rfl⟩
  rw [← hq] at hc3 ⊢
  have g4 := hc3.get (i := 4) rfl
  have g4f := hc3.free (i := 4) rfl
  have hu4 : Upd [q] W3 (W3.setCell ⟨q, 4, none⟩ (.int .i64 1)) := (Upd.refl [q] _).setCell (by simp) _
  have hc4 : Cel (W3.setCell ⟨q, 4, none⟩ (.int .i64 1)) q (oneC1 b).cells := hc3.set 4 (.int .i64 1)
  have hb14 : Below W1.heap.size W1 (W3.setCell ⟨q, 4, none⟩ (.int .i64 1)) := hu4.toBelow hb3 hb3.size (by simp; omega)
  have hin4 : (oneC1 b).In (W3.setCell ⟨q, 4, none⟩ (.int .i64 1)) := by
    have h9 := hi1.below hb14
    exact ⟨h9.t, h9.l, h9.names⟩
  have HB4 := Lib.hid (bthen' hb1 hb14)
  have HC4 := Lib.hid hc4.range
  have HIN := Lib.hid hin4
  clear hb1 hb3 KO hq hi1 hs1 hu4 hc4 hb14 hin4
  go_upto_region 3 with fail
  generalize W3.setCell ⟨q, 4, none⟩ (.int .i64 1) = W4 at HB4 HC4 HIN ⊢
  have KN := Lib.hid (new31_any W4 (oneC1 b) HIN.out ⟨by show 1 ≤ 1000000; decide, by show 0 ≤ 1000000; decide⟩ (one1_check b))
  clear g4 g4f
  go_upto_region 4 with (first
    | (refine wpList_load_mid rfl 25 _ rfl q 0 rfl (oneC1 b).cells _ HC4.out Try.underlying25 rfl (cfgRow _) ?_)
    | (go_at_call 6; refine KN.out.mono ?_; rintro e W5 ⟨v, nm, lm, rfl, hb5, hn5, hm5⟩))
  have hS5 : InvS W4 W5 v nm lm (oneC1 b) 0 [] := ⟨hb5, hn5, hm5, InvOk.nil (one1_check b)⟩
  have K1 := Lib.hid (sopen hS5 HIN.out (show (0 : Int) ≤ 1 from by decide) 0 iI 1 (by decide) (by decide) (by decide))
  unfold SOpen at K1
  rw [(open_one b).1, (open_one b).2.1, (open_one b).2.2, chk_one] at K1
  clear hS5 hb5 hn5 hm5 KN HC4
  go_upto_region 5 with (go_at_call 10; refine K1.out.mono ?_; rintro e W6 ⟨rfl, hS6⟩)
  have K2 := Lib.hid (sadmit hS6 HIN.out 1 (by decide))
  unfold SDone at K2
  rw [(room_one b).1, (room_one b).2] at K2
  clear hS6 K1
  go_upto_region 6 with (first
    | (go_at_call 12; refine K4.out.mono ?_; rintro e W9 ⟨rfl, hS9⟩)
    | (go_at_call 13; refine K3.out.mono ?_; rintro e W8 ⟨rfl, hS8⟩; have K4 := Lib.hid (sclose hS8 1); unfold SDone at K4; rw [close_two.1, close_two.2] at K4)
    | (go_at_call 13; refine K2.out.mono ?_; rintro e W7 ⟨rfl, hS7⟩; have K3 := Lib.hid (sadmit hS7 HIN.out 1 (by decide)); unfold SDone at K3; rw [(room_two b).1, (room_two b).2] at K3))
  have K5 := Lib.hid (sleave hS9 1)
  rw [leave_two.1, leave_two.2] at K5
  clear hS9 hS8 hS7 K2 K3 K4
  go_upto_region 7 with (go_at_call 14; refine K5.out.mono ?_; rintro e W10 ⟨rfl, hS10⟩)
  have K6 := Lib.hid (sclose hS10 1)
  unfold SDone at K6
  rw [close_one] at K6
  clear hS10 K5
  go_wp2_with (first
    | (go_at_call 12; refine K6.out.mono ?_; rintro e W11 ⟨rfl, hS11⟩)
    | (go_at_call 17; refine (num31_any _ _).mono ?_; rintro e w' ⟨rfl, rfl⟩))
  go_ret
  exact ⟨rfl, bthen' HB4.out hS11.low⟩
end Go.Proofs.Ytogajmbkjojdhaa
