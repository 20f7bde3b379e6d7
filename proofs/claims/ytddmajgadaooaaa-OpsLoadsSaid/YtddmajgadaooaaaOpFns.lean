/- What only reads a table of operations: Terminal, Get, Flight, Live, Ended, Next; New. -/
import Derived.Test.YtddmajgadaooaaaOpEnter
set_option linter.unusedVariables false
namespace Go.Proofs.Ytddmajgadaooaaa
open Go.RowKit

def term (s : Int) : Bool := decide (4 ≤ s) && decide (s ≤ 7)
theorem terminal_any (s : Int) (w : World) : Calls Try.prog 26 #[.int .i64 s] w fun e w' => e = .returned (.bool (term s)) ∧ w = w' := by
  by_cases h1 : 4 ≤ s
  · by_cases h2 : s ≤ 7
    · have e : term s = true := by unfold term; rw [decide_eq_true h1, decide_eq_true h2]; rfl
      rw [e]
      go_enter Try.func26, Try.ntmps26
      go_wp2_with fail
      go_ret
      exact ⟨rfl, rfl⟩
    · have e : term s = false := by unfold term; rw [decide_eq_false h2, Bool.and_false]
      rw [e]
      go_enter Try.func26, Try.ntmps26
      go_wp2_with fail
      go_ret
      exact ⟨rfl, rfl⟩
  · have e : term s = false := by unfold term; rw [decide_eq_false h1, Bool.false_and]
    rw [e]
    go_enter Try.func26, Try.ntmps26
    go_wp2_with fail
    go_ret
    exact ⟨rfl, rfl⟩
theorem term_ref (s : Int) : term s = (decide (s = 4) || decide (s = 5) || decide (s = 6) || decide (s = 7)) := by
  unfold term
  rw [Bool.eq_iff_iff]
  simp
  omega
theorem rterminal_any (s : Int) (w : World) : Calls Try.prog 16 #[.int .i64 s] w fun e w' => e = .returned (.bool (term s)) ∧ w = w' := by
  rw [term_ref]
  by_cases h4 : s = 4
  · subst h4
    go_enter Try.func16, Try.ntmps16
    go_wp2_with fail
    go_ret
    exact ⟨rfl, rfl⟩
  · by_cases h5 : s = 5
    · subst h5
      go_enter Try.func16, Try.ntmps16
      go_wp2_with fail
      go_ret
      exact ⟨rfl, rfl⟩
    · by_cases h6 : s = 6
      · subst h6
        go_enter Try.func16, Try.ntmps16
        go_wp2_with fail
        go_ret
        exact ⟨rfl, rfl⟩
      · by_cases h7 : s = 7
        · subst h7
          go_enter Try.func16, Try.ntmps16
          go_wp2_with fail
          go_ret
          exact ⟨rfl, rfl⟩
        · have b4 : (s == 4) = false := by simpa using h4
          have b5 : (s == 5) = false := by simpa using h5
          have b6 : (s == 6) = false := by simpa using h6
          have b7 : (s == 7) = false := by simpa using h7
          rw [decide_eq_false h4, decide_eq_false h5, decide_eq_false h6, decide_eq_false h7]
          clear h4 h5 h6 h7
          go_enter Try.func16, Try.ntmps16
          go_wp2_with fail
          go_ret
          exact ⟨rfl, rfl⟩

theorem results_row_tmp {P : Program} {fn : Func} {p q : Tmp} {ty : TypeId} (h : fn.results = #[.cell p ty, .tmp q]) (tmps : Array Value) (w : World) (g : Nat) (cs : List Value) (d : TypeDesc)
    (hp : tmps.getD p undef = .pointer (some ⟨g, 0, none⟩)) (hg : w.rangeAt g 0 cs) (hu : P.underlying ty = some d) (hd : d.isRow = true) (hi : (P.info? ty).map (·.size) = some cs.length) :
    (results fn tmps).run P w = .ok (.tuple #[.agg cs.toArray, tmps.getD q undef]) w := by
  have hp' : tmps[p]?.getD undef = .pointer (some ⟨g, 0, none⟩) := by simpa using hp
  simp [results, h, hp', asAddr, run_loadVar_mid w g 0 ty cs d hg hu hd hi]
theorem opRow' (x : OpV) : (Try.prog.info? 30).map (·.size) = some x.cells.toArray.size := opRow x
theorem opOne (x : OpV) : x.cells.toArray.all (·.oneCell') = true := by simp [OpV.cells, Value.oneCell']

theorem get_nil (w : World) (i : Int) : Calls Try.prog 14 #[.pointer none, .int .i64 i] w fun e w' => e = .returned (.tuple #[opR.val zeroOp, .bool false]) ∧ Below w.heap.size w w' := by
  go_enter Try.func14, Try.ntmps14
  go_upto_region 2 with fail
  show Code.wp _ _ _ _ (w.alloc (.cells zeroOp.cells.toArray 30))
  have hn := heap_alloc_new w (.cells zeroOp.cells.toArray 30)
  have hb : Below w.heap.size w (w.alloc (.cells zeroOp.cells.toArray 30)) := (Below.refl _ _).alloc (Nat.le_refl _) _
  generalize w.alloc (.cells zeroOp.cells.toArray 30) = W1 at hn hb ⊢
  go_wp2_with (refine wpList_store_row rfl 30 _ _ rfl w.heap.size zeroOp.cells.toArray rfl rfl 30 zeroOp.cells.toArray hn (opRow' zeroOp) rfl (opOne zeroOp) ?_)
  refine bodyPost_ret (results_row_tmp rfl _ _ w.heap.size zeroOp.cells _ rfl (op_range (setRow_heap _ _ _ _ _ _ hn)) Try.underlying30 rfl (opRow zeroOp)) rfl ⟨rfl, below_row hb (Nat.le_refl _) _⟩

set_option maxRecDepth 100000 in
set_option maxHeartbeats 2000000 in
theorem get_any (T : Nat → Prop) (w : World) (t : Nat) (keep next : Int) (lv ev : Value) (m fm : Nat) (sl : Fli → Value) (A D : List Int) (M : Int → Option Value) (fl : Fli → List Int) (h : OMem T w t keep next lv ev m fm sl A D M fl) (i : Int) (xo : Option OpV) (hx : M i = xo.map opR.val) :
    Calls Try.prog 14 #[.pointer (some ⟨t, 0, none⟩), .int .i64 i] w fun e w' => e = .returned (.tuple #[opR.val (xo.getD zeroOp), .bool xo.isSome]) ∧ Below w.heap.size w w' := by
  have HM := Lib.hid h
  have hval : (M i).getD (opR.val zeroOp) = opR.val (xo.getD zeroOp) ∧ (M i).isSome = xo.isSome := by rw [hx]; cases xo <;> exact ⟨rfl, rfl⟩
  obtain ⟨x, hxe⟩ : ∃ x, x = xo.getD zeroOp := ⟨_, rfl⟩
  obtain ⟨bo, hbo⟩ : ∃ bo, bo = xo.isSome := ⟨_, rfl⟩
  rw [← hxe, ← hbo] at hval ⊢
  have HV := Lib.hid hval
  clear h hx hxe hbo hval
  go_enter Try.func14, Try.ntmps14
  go_upto_region 3 with fail
  show Code.wp _ _ _ _ (w.alloc (.cells zeroOp.cells.toArray 30))
  have hn := heap_alloc_new w (.cells zeroOp.cells.toArray 30)
  have hb : Below w.heap.size w (w.alloc (.cells zeroOp.cells.toArray 30)) := (Below.refl _ _).alloc (Nat.le_refl _) _
  generalize w.alloc (.cells zeroOp.cells.toArray 30) = W1 at hn hb ⊢
  have HM1 := Lib.hid (HM.out.below hb)
  have c4 := HM1.out.box.get (i := 4) rfl
  obtain ⟨n1, hop⟩ := HM1.out.ops
  have HOP := Lib.hid hop
  have hs1 := lt_of_block hn
  clear hop
  go_upto_region 4 with (first
    | (refine wl_lookupOk (intK_ok Try.underlying3) rfl _ _ 57 30 rfl Try.underlying57 (z := opR.val zeroOp) (fun w => Try.zeroValue30 w) rfl HOP.out i rfl ?_; rw [HV.out.1, HV.out.2])
    | (refine wpList_store_row rfl 30 _ _ rfl W1.heap.size x.cells.toArray rfl rfl 30 zeroOp.cells.toArray (heap_alloc_new _ _) (opRow' x) rfl (opOne x) ?_))
  show Code.wp _ _ _ _ ((W1.alloc (.cells zeroOp.cells.toArray 30)).setRow W1.heap.size x.cells.toArray)
  have hn2 : ((W1.alloc (.cells zeroOp.cells.toArray 30)).setRow W1.heap.size x.cells.toArray).heap[W1.heap.size]? = some (.cells x.cells.toArray 30 (0, 0)) := setRow_heap _ _ _ _ _ _ (heap_alloc_new _ _)
  have hb2 : Below W1.heap.size W1 ((W1.alloc (.cells zeroOp.cells.toArray 30)).setRow W1.heap.size x.cells.toArray) := below_row ((Below.refl _ _).alloc (Nat.le_refl _) _) (Nat.le_refl _) _
  have hn3 := kept hb2 hn
  have hb3 := bthen' hb hb2
  generalize (W1.alloc (.cells zeroOp.cells.toArray 30)).setRow W1.heap.size x.cells.toArray = W2 at hn2 hn3 hb3 ⊢
  generalize W1.heap.size = r6 at hn2 ⊢
  have r2 := op_range hn2
  go_wp2_with (first
    | (refine wpList_load_mid rfl 30 _ rfl r6 0 rfl x.cells _ r2 Try.underlying30 rfl (opRow x) ?_)
    | (refine wpList_store_row rfl 30 _ _ rfl w.heap.size x.cells.toArray rfl rfl 30 zeroOp.cells.toArray hn3 (opRow' x) rfl (opOne x) ?_))
  refine bodyPost_ret (results_row_tmp rfl _ _ w.heap.size x.cells _ rfl (op_range (setRow_heap _ _ _ _ _ _ hn3)) Try.underlying30 rfl (opRow x)) rfl ⟨rfl, below_row hb3 (Nat.le_refl _) _⟩
end Go.Proofs.Ytddmajgadaooaaa
