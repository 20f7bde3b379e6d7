/- slices.Backward over texts: its contract. -/
import Derived.RangeFuncNested
import Derived.RangeFuncBound
import Derived.RangeFuncCalls
import Derived.RangeFuncLeaves
import Derived.RangeFuncFrom
import Derived.Shelf.Abstract
import Derived.Shelf.RegionOpen
import Derived.WalkKit
import Derived.OwnWalkIn
import Derived.TacticsInMore
import Derived.LoopNIn
import Derived.LoopIn
import Derived.Test.YteifjlhkfmoljaaRound
import Derived.Test.YteifjlhkfmoljaaHLru3
import Derived.Test.YteifjlhkfmoljaaQuantWalks
set_option linter.unusedVariables false
namespace Go.Proofs.Yteifjlhkfmoljaa
open Go.RowKit Go.Shelf
attribute [local go_sem] Oper.semAt_some

/-- What comes: the place, and the text, the last one first. -/
def encB (L : List ByteArray) (x : Nat) : Array Value := #[.int .i64 ((L.length : Int) - 1 - x), .string (L.reverse[x]?.getD ⟨#[]⟩)]
/-- The variable that holds the list, and the list. -/
def BackP (L : List ByteArray) (sv : Value) (n0 B : Nat) (w : World) : Prop := w.heap[B]? = some (.cells #[sv] 92 (0, 0)) ∧ Owns strR n0 w sv L
theorem Owns.keptRow {α : Type} {R : Rec α} {B : Nat} {w w' : World} {v : Value} {L : List α} (h : Owns R B w v L) {row : Option Nat} (hg : w.grownBy w' row) (hr : ∀ r, row = some r → ∃ o : Obj, w.heap[r]? = some o ∧ o.isCells = false) : Owns R B w' v L := by
  refine ⟨h.1, ?_⟩
  rcases h.2 with h0 | ⟨g, cap, cur, rfl, hb2, hg2, hn, hm, hs, ht⟩
  · exact .inl h0
  · refine .inr ⟨g, cap, cur, rfl, hb2, ?_, hn, hm, hs, ht⟩
    rw [hg.block g (Array.getElem?_eq_some_iff.1 hg2).1 (fun e => by
      obtain ⟨o, ho, hc⟩ := hr g e.symm
      rw [hg2] at ho
      cases ho
      cases hc), hg2]
theorem heap_keptRow {w w' : World} {B : Nat} {cs : Array Value} {T : TypeId} {fr : Nat × Nat} (h : w.heap[B]? = some (.cells cs T fr)) {row : Option Nat} (hg : w.grownBy w' row) (hr : ∀ r, row = some r → ∃ o : Obj, w.heap[r]? = some o ∧ o.isCells = false) : w'.heap[B]? = some (.cells cs T fr) := by
  rw [hg.block B (Array.getElem?_eq_some_iff.1 h).1 (fun e => by
    obtain ⟨o, ho, hc⟩ := hr B e.symm
    rw [h] at ho
    cases ho
    cases hc), h]
theorem BackP.keptRow {L : List ByteArray} {sv : Value} {n0 B : Nat} {w w' : World} (h : BackP L sv n0 B w) {row : Option Nat} (hg : w.grownBy w' row) (hr : ∀ r, row = some r → ∃ o : Obj, w.heap[r]? = some o ∧ o.isCells = false) : BackP L sv n0 B w' :=
  ⟨heap_keptRow h.1 hg hr, h.2.keptRow hg hr⟩
theorem BackP.below {L : List ByteArray} {sv : Value} {n0 B : Nat} {w w' : World} (h : BackP L sv n0 B w) (hb : Below w.heap.size w w') : BackP L sv n0 B w' := ⟨kept hb h.1, h.2.below hb⟩

theorem back_any (a : Option Addr) (n c : Nat) (w : World) :
    Calls Try.prog 45 #[.slice a n c] w fun e w' => e = .returned (.func (.func 51) #[] #[.pointer (some ⟨w.heap.size, 0, none⟩)]) ∧ w.alloc (.cells #[.slice a n c] 92) = w' := by
  have hmf : ∀ (fn : Fn) (first cap : Array Value) (w : World), (Instr.makeFunc fn first cap).run Try.prog w = .ok (.func fn first cap) w := fun _ _ _ _ => rfl
  go_enter Try.func45, Try.ntmps45
  go_wp2
  go_ret
  exact ⟨rfl, rfl⟩
theorem range_snoc (k : Nat) : List.range k ++ [k] = List.range (k + 1) := List.range_succ.symm

set_option maxRecDepth 100000 in
set_option maxHeartbeats 1000000 in
theorem back_stops (L : List ByteArray) (sv : Value) (n0 n B : Nat) (w : World) (hP : BackP L sv n0 B w) (hbig : L.length ≤ 100000) :
    SeqStopsK Fence.wide n Try.prog 51 #[.pointer (some ⟨B, 0, none⟩)] (encB L) (fun W W' => BackP L sv n0 B W → BackP L sv n0 B W') (fun xs => xs = List.range L.length) (fun pre => ∃ k, k ≤ L.length ∧ pre = List.range k) L.length w := fun l J Jx W hW hJ hJx hY h0 => by
  have hP2 : BackP L sv n0 B W := hP.below hW
  obtain ⟨a, cap, rfl⟩ := hP2.2.form
  have c0 := cell_of_one hP2.1
  refine callsIn_of_wp Try.func51 rfl trivial ?_ rfl
  simp only [Try.ntmps51, List.size_toArray, List.length_cons, List.length_nil, Nat.reduceAdd, Nat.reduceSub, Array.replicate_succ, Array.replicate_zero, List.push_toArray, List.append_toArray, List.nil_append, List.cons_append]
  gi_wp2
  have HP := Lib.hid hP2
  clear hP hP2 c0
  gi_loopw [3] (fun i wr => ∃ k : Nat, k ≤ L.length ∧ i = .int .i64 ((L.length : Int) - 1 - k) ∧ J (List.range k) wr ∧ BackP L (.slice a L.length cap) n0 B wr) (fun i _ => (intOf i + 1).toNat)
  case atStart => exact ⟨0, by omega, by go_num, h0, HP.out⟩
  case round =>
    obtain ⟨k, hk, rfl, hJs, hPw⟩ := hrel
    have c0 := cell_of_one hPw.1
    by_cases hlt : k < L.length
    · obtain ⟨x, hx⟩ : ∃ x, L[L.length - 1 - k]? = some x := ⟨_, List.getElem?_eq_getElem (by omega)⟩
      have hrev : L.reverse[k]? = some x := by rw [List.getElem?_reverse hlt, hx]
      obtain ⟨fn, tmps, assign, body, hy, hR⟩ := hY (List.range k) k wr hJs (by simpa using hlt)
      simp only [encB, hrev, Option.getD_some] at hy
      obtain ⟨b, off, e1, r1⟩ := (hPw.2.lts strOk).at hx
      subst e1
      have c1 : wr.cell? ⟨b, off + (L.length - 1 - k), none⟩ = some (.string x) := by have := r1 0 _ rfl; simpa [strR] using this
      have hi : ((L.length : Int) - 1 - k) = ((L.length - 1 - k : Nat) : Int) := by omega
      have HPw := Lib.hid hPw
      clear hPw r1 hrev hx hY
      rw [hi] at hy ⊢
      gi_wp2
      refine ⟨fun hh => (by simp [Fence.wide] at hh), hR.mono ?_⟩
      rintro e W3 (⟨rfl, hJ3, hK3⟩ | ⟨rfl, hJx3⟩)
      · have hP3 := hK3 HPw.out
        gi_wp2
        go_roundw
        case rel => exact ⟨k + 1, by omega, by go_num, by rw [← range_snoc]; exact hJ3, hP3⟩
        case measure => simp [intOf]
      · gi_wp2
        refine bodyPost_ret (results_none rfl _ _ _) rfl ?_
        exact ⟨⟨_, rfl⟩, .inr ⟨_, ⟨k + 1, by omega, by rw [← range_snoc]⟩, hJx3⟩⟩
    · obtain rfl : k = L.length := by omega
      have hi : ((L.length : Int) - 1 - L.length) = -1 := by omega
      rw [hi]
      clear hY
      gi_wp2
      go_end0
      exact ⟨⟨_, rfl⟩, .inl ⟨_, rfl, hJs⟩⟩
end Go.Proofs.Yteifjlhkfmoljaa
