/- The iterator over the sums of a histogram: its contract. -/
import Derived.RangeFuncNested
import Derived.RangeFuncBound
import Derived.RangeFuncCalls
import Derived.RangeFuncLeaves
import Derived.RangeFuncFrom
import Derived.Shelf.Abstract
import Derived.Shelf.RegionOpen
import Derived.WalkKit
import Derived.OwnWalkIn
import Derived.TacticsInMore
import Derived.LoopNIn
import Derived.LoopIn
import Derived.Test.YteifjlhkfmoljaaHistAts
import Derived.Test.YteifjlhkfmoljaaQuantLaw
set_option linter.unusedVariables false
namespace Go.Proofs.Yteifjlhkfmoljaa
open Go.RowKit Go.Shelf
open HistLaw
attribute [local go_sem] Oper.semAt_some

/-- A whole row read, inside the wide fence. -/
theorem wlIn_load_row {n : Nat} {P : Program} {ops : Array Oper} {rest : List Oper} {o : Oper} {a : Act} {w : World} {Q : Exit → Act → World → Prop} (hgd : o.guard = none) (ty : TypeId) (x : Operand) (ho : o.op = .load ty x)
    (g : Nat) (hx : a.eval x = .pointer (some ⟨g, 0, none⟩)) (t : TypeId) (cs : Array Value) (fr : Nat × Nat) (d : TypeDesc) (hg : w.heap[g]? = some (.cells cs t fr))
    (hu : P.underlying ty = some d) (hd : (match d with | .struct _ | .array _ _ => true | _ => false) = true) (hi : (P.info? ty).map (·.size) = some cs.size)
    (h : wpListIn Fence.wide n P ops Q rest (a.put o.dst (.agg cs)) w) : wpListIn Fence.wide n P ops Q (o :: rest) a w :=
  wpListIn_plain hgd fun K hK => ⟨fun _ _ => trivial, by
    have hs : (o.semAt Fence.wide.round a.eval).run P w = .ok (.value (.agg cs)) w := by
      rw [show Fence.wide.round = none from rfl]
      show (execOp a.eval o).run P w = _
      unfold execOp
      simp only [ho, hx, Instr.loadAt, Instr.sureAddr, Sem.run_bind, Sem.run_pure, Result.andThen_ok, run_loadVar_row w g t ty cs fr d hg hu hd hi]
    rw [hs]
    exact hK _ _ h⟩

/-- A bucket, and how many runtimes it and those below have. -/
def encs (h : List Int) (x : Fin 16) : Array Value := #[.int .i64 ((x.val : Nat) : Int), .int .i64 (tw (h.take (x.val + 1)))]

/-- The first k buckets. -/
def upto (k : Nat) : List (Fin 16) := (List.finRange 16).take k
theorem upto_succ {k : Nat} (hk : k < 16) : upto (k + 1) = upto k ++ [⟨k, hk⟩] := by
  unfold upto
  rw [List.take_succ_eq_append_getElem (by simpa using hk)]
  simp
theorem upto_length {k : Nat} (hk : k ≤ 16) : (upto k).length = k := by simp [upto]; omega

set_option maxRecDepth 100000 in
set_option maxHeartbeats 1000000 in
theorem sums_stops (h : List Int) (hl : h.length = 16) (n B : Nat) (w : World) (hB : w.heap[B]? = some (.cells (hcells h) 49 (0, 0))) :
    SeqStopsK Fence.wide n Try.prog 54 #[.pointer (some ⟨B, 0, none⟩)] (encs h) (fun _ _ => True) (fun xs => xs = upto 16) (fun pre => ∃ k, k ≤ 16 ∧ pre = upto k) 16 w := fun l J Jx W hW hJ hJx hY h0 => by
  have hB2 : W.heap[B]? = some (.cells (hcells h) 49 (0, 0)) := by rw [hW.block _ (lt_of_block hB), hB]
  have hix := run_hindex h hl
  refine callsIn_of_wp Try.func54 rfl trivial ?_ rfl
  simp only [Try.ntmps54, List.size_toArray, List.length_cons, List.length_nil, Nat.reduceAdd, Nat.reduceSub, Array.replicate_succ, Array.replicate_zero, List.push_toArray, List.append_toArray, List.nil_append, List.cons_append]
  gi_wp2_with (refine wlIn_load_row rfl 49 _ rfl B rfl 49 (hcells h) (0, 0) _ hB2 histU rfl (histRow hl) ?_)
  gi_loopw [3, 7] (fun s i wr => ∃ k : Nat, k ≤ 16 ∧ i = .int .i64 k ∧ s = .int .i64 (tw (h.take k)) ∧ J (upto k) wr) (fun _ i _ => 16 - (intOf i).toNat)
  case atStart => exact ⟨0, by omega, rfl, rfl, h0⟩
  case round =>
    obtain ⟨k, hk, rfl, rfl, hJs⟩ := hrel
    by_cases hlt : k < 16
    · have hk1 := hix k hlt
      have HT : tw (h.take (k + 1)) = wrap64 (tw (h.take k) + nth h k) := by rw [tw_take h k (by omega), IntWalk.i64_left]
      obtain ⟨fn, tmps, assign, body, hy, hR⟩ := hY _ ⟨k, hlt⟩ wr hJs (by rw [upto_length (by omega)]; exact hlt)
      simp only [encs, HT] at hy
      have HTT := Lib.hid HT
      clear hix HT hY
      gi_wp2
      refine ⟨fun hh => (by simp [Fence.wide] at hh), hR.mono ?_⟩
      rintro e W3 (⟨rfl, hJ3, -⟩ | ⟨rfl, hJx3⟩)
      · gi_wp2
        go_roundw
        case rel => exact ⟨k + 1, by omega, by go_num, by rw [HTT.out], by rw [upto_succ hlt]; exact hJ3⟩
        case measure => simp [intOf]; omega
      · gi_wp2
        refine bodyPost_ret (results_none rfl _ _ _) rfl ?_
        exact ⟨⟨_, rfl⟩, .inr ⟨_, ⟨k + 1, by omega, (upto_succ hlt).symm⟩, hJx3⟩⟩
    · obtain rfl : k = 16 := by omega
      clear hix hY
      gi_wp2
      go_end0
      exact ⟨⟨_, rfl⟩, .inl ⟨_, rfl, hJs⟩⟩
end Go.Proofs.Yteifjlhkfmoljaa
