/- The page's configuration: of one tenant. -/
import Derived.Test.YtogajmbkjojdhaaConfRefCheck
set_option linter.unusedVariables false
set_option maxRecDepth 100000
namespace Go.Proofs.Ytogajmbkjojdhaa
open Go.RowKit

/-- A configuration of one tenant, that lies at b. -/
def oneC (b : Nat) : Cfg := ⟨.slice (some ⟨b, 0, none⟩) 1 1, .slice none 0 0, [⟨⟨#[97]⟩, 1, 9⟩], [], 1, 2, 3, 2, 2, 2, 1, 0, 1, 4, 5, 2, 2, 2, 50, 2, 0⟩
def zeroC : Cfg := ⟨.slice none 0 0, .slice none 0 0, [], [], 0, 0, 0, 0, 0, 0, 0, 0, 0, 0, 0, 0, 0, 0, 0, 0, 0⟩
theorem one_name : nameB [97] = true := by
  first | kernel_rfl | decide | simp [nameB]
theorem one_check (b : Nat) : checkv (oneC b) = 0 := by
  have h : tensv (oneC b).T = 0 := by
    rw [tensv_some (T := (oneC b).T) (show 1 ≤ 1 from by decide) (show 1 ≤ 6 from by decide)]
    show tensF [] [⟨⟨#[97]⟩, 1, 9⟩] = 0
    rw [tensF, tenv_ok one_name (by decide) (by decide), if_neg (by decide), if_neg (by decide), tensF]
  exact checkv_ok h (by show ¬ 3 < 0; omega) rfl (by rw [spans_abd]; rfl)

def freshC (w : World) (c : Cfg) : World := (w.alloc (.cells zeroC.cells.toArray 25)).setCells w.heap.size 0 c.cells
theorem freshC_there' (w : World) (c : Cfg) : (w.alloc (.cells zeroC.cells.toArray 25)).there w.heap.size 0 c.cells.length := by
  intro j hj
  have hj : j < 19 := hj
  refine ⟨?_, by unfold World.frozen?; simp only [heap_alloc_new w (.cells zeroC.cells.toArray 25)]; simp⟩
  rw [cell_of_row _ w.heap.size (0 + j) _ 25 (0, 0) (heap_alloc_new _ _)]
  have : zeroC.cells.length = 19 := rfl
  simp; omega
theorem freshC_there (w : World) (c : Cfg) : (w.alloc (.cells zeroC.cells.toArray 25)).there w.heap.size 0 c.cells.toArray.size := by
  have := freshC_there' w c
  simpa using this
theorem freshC_range (w : World) (c : Cfg) : (freshC w c).rangeAt w.heap.size 0 c.cells := World.rangeAt_setCells_same _ _ _ _ (freshC_there' w c)
theorem freshC_below (w : World) (c : Cfg) : Below w.heap.size w (freshC w c) := ((Upd.refl [w.heap.size] _).setCells (by simp) _ _).toBelow ((Below.refl _ _).alloc (Nat.le_refl _) _) (by simp) (by simp)

theorem wl_built {ops : Array Oper} {rest : List Oper} {o : Oper} {a : Act} {w : World} {Q : Exit → Act → World → Prop} (hg : o.guard = none) (t : TypeId) (parts : Array (Nat × Operand)) (ho : o.op = .build t parts)
    (ps : List (Nat × Value)) (hps : (parts.map fun (i, x) => (i, a.eval x)).toList = ps) (cs : Array Value) (hb : Try.prog.built t ps = some cs)
    (h : wpList Try.prog ops Q rest (a.put o.dst (.agg cs)) w) : wpList Try.prog ops Q (o :: rest) a w := by
  refine wpList_build hg t parts ho ?_ ?_
  · rw [hps, hb]; rfl
  · rw [hps, hb]; exact h
def oneP (v : Value) : List (Nat × Value) := [(0, v), (2, .int .i64 1), (3, .int .i64 2), (4, .int .i64 3), (5, .int .i64 2), (6, .int .i64 2), (7, .int .i64 2), (8, .int .i64 1), (10, .int .i64 1), (11, .int .i64 4), (12, .int .i64 5), (13, .int .i64 2), (14, .int .i64 2), (15, .int .i64 2), (16, .int .i64 50), (17, .int .i64 2)]
theorem built_one (b : Nat) : Try.prog.built 25 (oneP (.slice (some ⟨b, 0, none⟩) 1 1)) = some (oneC b).cells.toArray := by kernel_rfl

theorem results_cell_mid {P : Program} {fn : Func} {p : Tmp} {ty : TypeId} (h : fn.results = #[.cell p ty]) (tmps : Array Value) (w : World) (g : Nat) (cs : List Value) (d : TypeDesc)
    (hp : tmps.getD p undef = .pointer (some ⟨g, 0, none⟩)) (hc : w.rangeAt g 0 cs) (hu : P.underlying ty = some d) (hd : d.isRow = true) (hi : (P.info? ty).map (·.size) = some cs.length) :
    (results fn tmps).run P w = .ok (.agg cs.toArray) w := by
  have hp' : tmps[p]?.getD undef = .pointer (some ⟨g, 0, none⟩) := by simpa using hp
  simp [results, h, hp', asAddr, run_loadVar_mid w g 0 ty cs d hc hu hd hi]
theorem cfg_one (c : Cfg) (h1 : c.tv.oneCell' = true) (h2 : c.lv.oneCell' = true) : c.cells.toArray.all (·.oneCell') = true := by
  refine all_oneCell_toArray fun v hv => ?_
  simp only [Cfg.cells, List.mem_cons, List.not_mem_nil, or_false] at hv
  rcases hv with rfl | rfl | rfl | rfl | rfl | rfl | rfl | rfl | rfl | rfl | rfl | rfl | rfl | rfl | rfl | rfl | rfl | rfl | rfl
  · exact h1
  · exact h2
  all_goals rfl

set_option maxRecDepth 100000 in
set_option maxHeartbeats 2000000 in
theorem one_any (w : World) : Calls Try.prog 27 #[] w fun e w' => ∃ b, e = .returned (.agg (oneC b).cells.toArray) ∧ Below w.heap.size w w' ∧ (oneC b).In w' := by
  have hb1 : Below w.heap.size w (w.alloc (.cells zeroC.cells.toArray 25)) := (Below.refl _ _).alloc (Nat.le_refl _) _
  go_enter Try.func27, Try.ntmps27
  go_upto_region 1 with fail
  show Code.wp _ _ _ _ (w.alloc (.cells zeroC.cells.toArray 25))
  have ht1 := freshC_there w
  generalize hW1 : w.alloc (.cells zeroC.cells.toArray 25) = W1 at hb1 ht1 ⊢
  have hlt : w.heap.size < W1.heap.size := by rw [← hW1]; simp
  clear hW1
  go_wp2_with (first
    | (refine wl_build_rec tenOk rfl _ rfl ⟨⟨#[97]⟩, 1, 9⟩ rfl ?_; have hx2 := built_range (R := tenR) (w := W1) ⟨⟨#[97]⟩, 1, 9⟩; have hb2 : Below W1.heap.size W1 (W1.alloc (.cells (tenR.val ⟨⟨#[97]⟩, 1, 9⟩).cells tenR.ty)) := (Below.refl _ _).alloc (Nat.le_refl _) _; generalize W1.alloc (.cells (tenR.val ⟨⟨#[97]⟩, 1, 9⟩).cells tenR.ty) = W2 at hx2 hb2 ⊢)
    | (refine wl_built rfl 25 _ rfl (oneP (.slice (some ⟨W1.heap.size, 0, none⟩) 1 1)) (by simp [oneP, Act.eval, Act.put]) _ (built_one _) ?_)
    | (refine wpList_store_mid rfl 25 _ _ rfl w.heap.size 0 (oneC W1.heap.size).cells.toArray rfl rfl (below_there hb2 (ht1 _)) (cfgRow' _) (cfg_one _ rfl rfl) ?_; have hr3 := World.rangeAt_setCells_same W2 w.heap.size 0 (oneC W1.heap.size).cells (by simpa using below_there hb2 (ht1 (oneC W1.heap.size))); have hu3 := (Upd.refl [w.heap.size] W2).setCells (b := w.heap.size) (by simp) 0 (oneC W1.heap.size).cells; show wpList _ _ _ _ _ (W2.setCells w.heap.size 0 (oneC W1.heap.size).cells); generalize W2.setCells w.heap.size 0 (oneC W1.heap.size).cells = W3 at hr3 hu3 ⊢))
  have hb3 := hu3.toBelow (bthen' hb1 hb2) (bthen' hb1 hb2).size (by simp)
  have hx3 := hu3.range (by simp; omega) hx2
  refine bodyPost_ret (results_cell_mid rfl _ _ w.heap.size (oneC W1.heap.size).cells _ rfl hr3 Try.underlying25 rfl (cfgRow _)) rfl ?_
  exact ⟨W1.heap.size, rfl, hb3, ⟨.inr ⟨W1.heap.size, 0, 1, rfl, fun i x hx => by
    match i, hx with
    | 0, hx => cases hx; exact hx3
    | i + 1, hx => cases hx⟩, .inl ⟨rfl, none, 0, rfl⟩, by intro x hx; simp [oneC] at hx; subst hx; decide⟩⟩

theorem one_few (b : Nat) : (oneC b).Few := ⟨by show 1 ≤ 1000000; decide, by show 0 ≤ 1000000; decide⟩
theorem wl_load_mid {ops : Array Oper} {rest : List Oper} {op : Oper} {a : Act} {w : World} {Q : Exit → Act → World → Prop} (hw : Region.wanted op (yielded ops a.tmps) = true) (ty : TypeId) (x : Operand) (ho : op.op = .load ty x)
    (b o : Nat) (hx : a.eval x = .pointer (some ⟨b, o, none⟩)) (cs : List Value) (d : TypeDesc) (hc : w.rangeAt b o cs)
    (hu : Try.prog.underlying ty = some d) (hd : d.isRow = true) (hi : (Try.prog.info? ty).map (·.size) = some cs.length)
    (h : wpList Try.prog ops Q rest (a.put op.dst (.agg cs.toArray)) w) : wpList Try.prog ops Q (op :: rest) a w :=
  BigFrame.wpList_want hw fun _ hK => wp_load_mid ty x ho b o hx cs d hc hu hd hi (hK _ _ h)

end Go.Proofs.Ytogajmbkjojdhaa
