/- The spans of a configuration. -/
import Derived.Test.YtogajmbkjojdhaaConfLaw
set_option linter.unusedVariables false
set_option maxRecDepth 100000
namespace Go.Proofs.Ytogajmbkjojdhaa
open Go.RowKit

theorem nineteen {w : World} {b : Nat} {c : Cfg} (h : w.rangeAt b 0 c.cells) :
    w.cell? ⟨b, 0, none⟩ = some c.tv ∧ w.cell? ⟨b, 1, none⟩ = some c.lv ∧ w.cell? ⟨b, 2, none⟩ = some (.int .i64 c.quantum) ∧ w.cell? ⟨b, 3, none⟩ = some (.int .i64 c.cost) ∧ w.cell? ⟨b, 4, none⟩ = some (.int .i64 c.cap) ∧
    w.cell? ⟨b, 5, none⟩ = some (.int .i64 c.invs) ∧ w.cell? ⟨b, 6, none⟩ = some (.int .i64 c.weight) ∧ w.cell? ⟨b, 7, none⟩ = some (.int .i64 c.pools) ∧ w.cell? ⟨b, 8, none⟩ = some (.int .i64 c.retries) ∧ w.cell? ⟨b, 9, none⟩ = some (.int .i64 c.preempts) ∧
    w.cell? ⟨b, 10, none⟩ = some (.int .i64 c.base) ∧ w.cell? ⟨b, 11, none⟩ = some (.int .i64 c.most) ∧ w.cell? ⟨b, 12, none⟩ = some (.int .i64 c.lease) ∧ w.cell? ⟨b, 13, none⟩ = some (.int .i64 c.dead) ∧ w.cell? ⟨b, 14, none⟩ = some (.int .i64 c.keep) ∧
    w.cell? ⟨b, 15, none⟩ = some (.int .i64 c.keys) ∧ w.cell? ⟨b, 16, none⟩ = some (.int .i64 c.percent) ∧ w.cell? ⟨b, 17, none⟩ = some (.int .i64 c.workers) ∧ w.cell? ⟨b, 18, none⟩ = some (.int .i64 c.watch) := by
  refine ⟨?_, ?_, ?_, ?_, ?_, ?_, ?_, ?_, ?_, ?_, ?_, ?_, ?_, ?_, ?_, ?_, ?_, ?_, ?_⟩
  · simpa using h 0 _ rfl
  · simpa using h 1 _ rfl
  · simpa using h 2 _ rfl
  · simpa using h 3 _ rfl
  · simpa using h 4 _ rfl
  · simpa using h 5 _ rfl
  · simpa using h 6 _ rfl
  · simpa using h 7 _ rfl
  · simpa using h 8 _ rfl
  · simpa using h 9 _ rfl
  · simpa using h 10 _ rfl
  · simpa using h 11 _ rfl
  · simpa using h 12 _ rfl
  · simpa using h 13 _ rfl
  · simpa using h 14 _ rfl
  · simpa using h 15 _ rfl
  · simpa using h 16 _ rfl
  · simpa using h 17 _ rfl
  · simpa using h 18 _ rfl
/-- The block of a configuration. -/
def CfgAt (c : Cfg) (w : World) (b : Nat) : Prop := w.heap[b]? = some (.cells c.cells.toArray 25 (0, 0))
theorem CfgAt.new (c : Cfg) (w : World) : CfgAt c (w.alloc (.cells c.cells.toArray 25)) w.heap.size := heap_alloc_new w _
theorem CfgAt.range {c : Cfg} {w : World} {b : Nat} (h : CfgAt c w b) : w.rangeAt b 0 c.cells := fun j v hv => by
  rw [cell_of_row w b (0 + j) _ _ (0, 0) h]
  simpa using hv
theorem CfgAt.below {c : Cfg} {w w' : World} {b : Nat} (h : CfgAt c w b) (hb : Below w.heap.size w w') : CfgAt c w' b := by
  unfold CfgAt at *
  rw [hb.block _ (lt_of_block h), h]

theorem spans_reads (c : Cfg) (w : World) (cs : Array Value) (h : cs.toList = c.spans.flatMap spanR.cells) : Reads spanR (w.alloc (.cells cs 85)) (.slice (some ⟨w.heap.size, 0, none⟩) 17 17) c.spans := by
  have hl : c.spans.length = 17 := rfl
  have hlen := recs_length spanOk c.spans
  have hs : cs.size = 17 * spanR.n := by rw [← Array.length_toList, h, hlen, hl]
  refine Owns.lts spanOk (B := 0) ⟨hlen, .inr ⟨w.heap.size, 17, cs, rfl, Nat.zero_le _, heap_alloc_new _ _, by rw [hl]; exact Nat.le_refl _, by simp [maxLen], hs, ?_⟩⟩
  rw [hl, ← hs, ← Array.length_toList, List.take_length, h]

set_option maxRecDepth 100000 in
set_option maxHeartbeats 4000000 in
theorem spans_any (w : World) (c : Cfg) : Calls Try.prog 47 #[.agg c.cells.toArray] w fun e w' => ∃ v, e = .returned v ∧ Below w.heap.size w w' ∧ Reads spanR w' v c.spans := by
  obtain ⟨c0, c1, c2, c3, c4, c5, c6, c7, c8, c9, c10, c11, c12, c13, c14, c15, c16, c17, c18⟩ := nineteen (CfgAt.new c w).range
  go_enter Try.func47, Try.ntmps47
  go_wp2_with fail
  go_ret
  refine ⟨_, rfl, ((Below.refl _ _).alloc (Nat.le_refl _) _).alloc (by simp) _, ?_⟩
  have hsz : w.heap.size + 1 = (w.alloc (.cells c.cells.toArray 25)).heap.size := by simp
  have hr := spans_reads c (w.alloc (.cells c.cells.toArray 25)) _ rfl
  rw [← hsz] at hr
  exact hr

end Go.Proofs.Ytogajmbkjojdhaa
