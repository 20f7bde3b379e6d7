/- The contracts of quant's functions and of the document's answer. -/
import Derived.Test.YteifjlhkfmoljaaQuantIter
set_option linter.unusedVariables false
namespace Go.Proofs.Yteifjlhkfmoljaa
open Go.RowKit Go.Shelf
open HistLaw
attribute [local go_sem] Oper.semAt_some

/-- A function that holds a range over a function: its contract out of its body's walk. -/
theorem calls_marks {P : Program} {f : FuncId} {fn : Func} {c : Code} {args : Array Value} {w : World} {R : Ending → World → Prop} (n : Nat)
    (hf : P.funcs[f]? = some fn) (hb : fn.body = some c)
    (h : c.wp P (bodyPostM Fence.wide n P fn R) { tmps := args ++ Array.replicate (fn.ntmps - args.size) undef, defers := [] } w) : Calls P f args w R :=
  callsIn_wide.1 (callsIn_of_wp_marks hf hb trivial (wpIn_wide.2 h))

theorem sums_any (h : List Int) (w : World) :
    Calls Try.prog 50 #[.agg (hcells h)] w fun e w' => e = .returned (.func (.func 54) #[] #[.pointer (some ⟨w.heap.size, 0, none⟩)]) ∧ w.alloc (.cells (hcells h) 49) = w' := by
  have hmf : ∀ (fn : Fn) (first cap : Array Value) (w : World), (Instr.makeFunc fn first cap).run Try.prog w = .ok (.func fn first cap) w := fun _ _ _ _ => rfl
  go_enter Try.func50, Try.ntmps50
  go_wp2
  go_ret
  exact ⟨rfl, rfl⟩

theorem ret_pair {a b : Int} {c d : Bool} (h1 : a = b) (h2 : c = d) : Ending.returned (.tuple #[.int .i64 a, .bool c]) = .returned (.tuple #[.int .i64 b, .bool d]) := by rw [h1, h2]

/-- Behind the four boxes of a call, and whatever grew since. -/
theorem four_boxes {w w1 : World} {A B C D : Obj} (hb : Below ((((w.alloc A).alloc B).alloc C).alloc D).heap.size ((((w.alloc A).alloc B).alloc C).alloc D) w1) :
    w1.heap[w.heap.size]? = some A ∧ w1.heap[w.heap.size + 1]? = some B ∧ w1.heap[w.heap.size + 1 + 1]? = some C ∧ w1.heap[w.heap.size + 1 + 1 + 1]? = some D ∧ Below w.heap.size w w1 ∧ w.heap.size + 4 ≤ w1.heap.size := by
  have h3 : Below (((w.alloc A).alloc B).alloc C).heap.size (((w.alloc A).alloc B).alloc C) w1 := by
    refine Below.trans ((Below.refl _ _).alloc (Nat.le_refl _) _) (hb.mono (by simp))
  obtain ⟨a, b, c, d, e⟩ := three_boxes h3
  refine ⟨a, b, c, ?_, d, ?_⟩
  · rw [hb.block _ (by simp)]
    have := heap_alloc_new (((w.alloc A).alloc B).alloc C) D
    simpa using this
  · have := hb.size; simp at this; omega

theorem kept_alloc {w1 w2 : World} {o x : Obj} {g : Nat} (hb : Below (w1.alloc o).heap.size (w1.alloc o) w2) (hg : w1.heap[g]? = some x) : w2.heap[g]? = some x := by
  have := lt_of_block hg
  rw [hb.block _ (by simp; omega), hp_old this, hg]
theorem new_alloc {w1 w2 : World} {o : Obj} (hb : Below (w1.alloc o).heap.size (w1.alloc o) w2) : w2.heap[w1.heap.size]? = some o := by
  rw [hb.block _ (by simp)]; exact heap_alloc_new w1 o
theorem bthen_alloc {w w1 w2 : World} {o : Obj} (h1 : Below w.heap.size w w1) (hb : Below (w1.alloc o).heap.size (w1.alloc o) w2) : Below w.heap.size w w2 :=
  bthen (h1.alloc h1.size o) hb

set_option maxRecDepth 100000 in
set_option maxHeartbeats 1000000 in
theorem place_yes (h : List Int) (hl : h.length = 16) (p : Int) (hp : plcOk h p = true) (w : World) :
    Calls Try.prog 40 #[.agg (hcells h), .int .i64 p] w fun e w' => e = .returned (.tuple #[.int .i64 (plcB h p), .bool true]) ∧ Below w.heap.size w w' := by
  obtain ⟨hr, ht, hp1, hp2⟩ := plcOk_iff.1 hp
  have htb : (tw h == 0) = false := by simpa using ht
  have hbd := tw_bd64 hl hr
  obtain ⟨hbd0, hbd1⟩ := hbd
  have HL := Lib.hid hl
  have HP := Lib.hid hp
  have hd1 : decide (p < 1) = false := by simp; omega
  have hd2 : decide (100 < p) = false := by simp; omega
  clear ht hp
  refine calls_marks 3 Try.func40 rfl ?_
  simp only [Try.ntmps40, List.size_toArray, List.length_cons, List.length_nil, Nat.reduceAdd, Nat.reduceSub, Array.replicate_succ, Array.replicate_zero, List.push_toArray, List.append_toArray, List.nil_append, List.cons_append]
  go_wp2_with (first | (refine wl_load_row rfl 49 _ rfl w.heap.size rfl 49 (hcells h) (0, 0) _ (by first | assumption | (rw [hp_old (by simp; omega), hp_old (by simp; omega), hp_old (by simp)]; exact heap_alloc_new w _) | (rw [hp_old (by omega)]; assumption)) histU rfl (histRow hl) ?_) | (go_at_call 38; refine (total_any h hl _).mono ?_; rintro e w1 ⟨rfl, hb1⟩; obtain ⟨hA, hP, hR0, hR1, hbel, hsz⟩ := four_boxes hb1; clear hb1) | (go_at_call 30; refine (right_any h hl _).mono ?_; rintro e w2 ⟨rfl, hb2⟩; have hA2 := kept_alloc hb2 hA; have hP2 := kept_alloc hb2 hP; have hR02 := kept_alloc hb2 hR0; have hR12 := kept_alloc hb2 hR1; have hT2 := new_alloc hb2; have hbel2 := bthen_alloc hbel hb2; have cP := cell_of_one hP2; have cT := cell_of_one hT2; clear hb2 hA hP hR0 hR1 hbel) | (go_at_call 50; refine (sums_any h _).mono ?_; rintro e w3 ⟨rfl, rfl⟩))
  have c0 := cell_of_one hR02
  have c1 := cell_of_one hR12
  have f0 := free_of_one hR02
  have f1 := free_of_one hR12
  have hlt2 : w.heap.size + 4 ≤ w2.heap.size := by have := lt_of_block hR12; omega
  have hltT : w.heap.size + 4 ≤ w1.heap.size := hsz
  have hTlt : w1.heap.size < w2.heap.size := lt_of_block hT2
  have hB0 : Below w.heap.size w (w2.alloc (.cells (hcells h) 49)) := hbel2.alloc hbel2.size _
  have al : ∀ (b : Nat) (v : Value), b < w2.heap.size → w2.cell? ⟨b, 0, none⟩ = some v → (w2.alloc (.cells (hcells h) 49)).cell? ⟨b, 0, none⟩ = some v := fun b v hb hv => by rw [World.cell?_alloc_past _ _ _ hb, hv]
  have af : ∀ (b : Nat), b < w2.heap.size → w2.frozen? ⟨b, 0, none⟩ = false → (w2.alloc (.cells (hcells h) 49)).frozen? ⟨b, 0, none⟩ = false := fun b hb hv => by rw [World.frozen?_alloc_past _ _ _ hb, hv]
  refine wpIn_wide.1 (wpIn_rangeFunc_ownF rfl (by omega : 1 ≤ 3) (gf := 54) (lb := #[.pointer (some ⟨w2.heap.size, 0, none⟩)]) rfl trivial (enters_of Try.func54 (by kernel_rfl) rfl)
    (sums_stops h hl 2 w2.heap.size (w2.alloc (.cells (hcells h) 49)) (heap_alloc_new w2 _)) (fun _ _ => trivial) (fun _ _ _ _ _ _ _ _ => trivial) (Below.refl _ _) (fun _ => rfl)
    (fun pre W => ((∀ b ∈ pre, hit h p (b : Fin 16).val = false) ∧ W.cell? ⟨w.heap.size + 1, 0, none⟩ = some (.int .i64 p) ∧ W.cell? ⟨w1.heap.size, 0, none⟩ = some (.int .i64 (tw h)) ∧ W.cell? ⟨w.heap.size + 1 + 1, 0, none⟩ = some (.int .i64 0) ∧ W.cell? ⟨w.heap.size + 1 + 1 + 1, 0, none⟩ = some (.bool false) ∧ W.frozen? ⟨w.heap.size + 1 + 1, 0, none⟩ = false ∧ W.frozen? ⟨w.heap.size + 1 + 1 + 1, 0, none⟩ = false) ∧ Below w.heap.size w W)
    (fun c pre W => (c = .ret ∧ (∃ q b, pre = q ++ [b] ∧ (∀ b' ∈ q, hit h p (b' : Fin 16).val = false) ∧ hit h p b.val = true ∧ W.cell? ⟨w.heap.size + 1 + 1, 0, none⟩ = some (.int .i64 ((b.val : Nat) : Int))) ∧ W.cell? ⟨w.heap.size + 1 + 1 + 1, 0, none⟩ = some (.bool true)) ∧ Below w.heap.size w W)
    (OwnFrom.and (Own.from (fun s A B row hs hg hr => ⟨hs.1, cell_kept hs.2.1 hg hr, cell_kept hs.2.2.1 hg hr, cell_kept hs.2.2.2.1 hg hr, cell_kept hs.2.2.2.2.1 hg hr, (frozen_kept hs.2.2.2.1 hg hr).trans hs.2.2.2.2.2.1, (frozen_kept hs.2.2.2.2.1 hg hr).trans hs.2.2.2.2.2.2⟩) _) (ownFrom_below (Nat.le_refl _) (by simp; omega)))
    (fun c => OwnFrom.and (Own.from (fun s A B row hs hg hr => by obtain ⟨hc, ⟨q, b, e1, e2, e3, e4⟩, e5⟩ := hs; exact ⟨hc, ⟨q, b, e1, e2, e3, cell_kept e4 hg hr⟩, cell_kept e5 hg hr⟩) _) (ownFrom_below (Nat.le_refl _) (by simp; omega)))
    ⟨⟨by simp, al _ _ (by omega) cP, al _ _ hTlt cT, al _ _ (by omega) c0, al _ _ (by omega) c1, af _ (by omega) f0, af _ (by omega) f1⟩, hB0⟩
    (fun x => { tmps := #[.agg (hcells h), .int .i64 p, .pointer (some ⟨w.heap.size, 0, none⟩), .pointer (some ⟨w.heap.size + 1, 0, none⟩), .pointer (some ⟨w.heap.size + 1 + 1, 0, none⟩), .pointer (some ⟨w.heap.size + 1 + 1 + 1, 0, none⟩), .pointer (some ⟨w1.heap.size, 0, none⟩), .int .i64 ((x.val : Nat) : Int), .int .i64 (tw (h.take (x.val + 1))), .agg (hcells h), .int .i64 (tw h), .agg (hcells h), .bool true, .bool false, .bool false, .int .i64 (tw h), .bool false, .bool false, .bool false, .int .i64 p, .bool false, .bool false, .bool false, .int .i64 p, .bool false, .bool false, .agg (hcells h), .func (.func 54) #[] #[.pointer (some ⟨w2.heap.size, 0, none⟩)], .int .i64 ((x.val : Nat) : Int), .int .i64 (tw (h.take (x.val + 1))), undef, undef, undef, undef, undef, undef, undef], defers := [] }) ?assign ?body ?done ?stop)
  case assign =>
    intro l x W K hK
    dsimp only [encs]
    gi_wp2
    exact hK
  case body =>
    rintro l pre x W ⟨⟨hn, qP, qT, q0, q1, g0, g1⟩, hB⟩ _
    have ht := take_bd HL.out hr (x.val + 1)
    obtain ⟨ht0, ht1⟩ := ht
    have hmul0 : 0 ≤ tw h * p := Int.mul_nonneg hbd0 (by omega)
    have hmul1 : tw h * p ≤ 6400 := by
      have h1 := Int.mul_le_mul_of_nonneg_left hp2 hbd0
      omega
    by_cases hh : tw h * p ≤ tw (h.take (x.val + 1)) * 100
    · have hhit : hit h p x.val = true := decide_eq_true hh
      have q1' : (W.setCell ⟨w.heap.size + 1 + 1, 0, none⟩ (.int .i64 ((x.val : Nat) : Int))).cell? ⟨w.heap.size + 1 + 1 + 1, 0, none⟩ = some (.bool false) := by rw [World.cell?_setCell_other _ _ _ _ (by simp)]; exact q1
      have r0 : ((W.setCell ⟨w.heap.size + 1 + 1, 0, none⟩ (.int .i64 ((x.val : Nat) : Int))).setCell ⟨w.heap.size + 1 + 1 + 1, 0, none⟩ (.bool true)).cell? ⟨w.heap.size + 1 + 1, 0, none⟩ = some (.int .i64 ((x.val : Nat) : Int)) := by rw [World.cell?_setCell_other _ _ _ _ (by simp)]; exact World.cell?_setCell_same _ _ _ q0
      have r1 : ((W.setCell ⟨w.heap.size + 1 + 1, 0, none⟩ (.int .i64 ((x.val : Nat) : Int))).setCell ⟨w.heap.size + 1 + 1 + 1, 0, none⟩ (.bool true)).cell? ⟨w.heap.size + 1 + 1 + 1, 0, none⟩ = some (.bool true) := World.cell?_setCell_same _ _ _ q1'
      gi_wp2
      exact ⟨(KeepsOthers.setCell _ _ _).trans (KeepsOthers.setCell _ _ _), ⟨rfl, ⟨pre, x, rfl, hn, hhit, r0⟩, r1⟩, (hB.setCell (p := ⟨w.heap.size + 1 + 1, 0, none⟩) (by simp; omega) _).setCell (p := ⟨w.heap.size + 1 + 1 + 1, 0, none⟩) (by simp; omega) _⟩
    · have hhit : hit h p x.val = false := decide_eq_false hh
      gi_wp2
      exact ⟨KeepsOthers.refl _, trivial, ⟨fun b hb => (List.mem_append.1 hb).elim (hn b) (fun e => by simp at e; subst e; exact hhit), qP, qT, q0, q1, g0, g1⟩, hB⟩
  case done =>
    rintro D xs W hD rfl ⟨⟨hn, _⟩, _⟩ hK
    exfalso
    have h15 := hn ⟨15, by omega⟩ (by rw [upto, List.take_of_length_le (by simp)]; exact List.mem_finRange _)
    rw [hit_15 HL.out hr hp2] at h15
    cases h15
  case stop =>
    rintro D c pre W hD ⟨k, hk, hpre⟩ ⟨⟨rfl, ⟨q, b, e1, e2, e3, e4⟩, e5⟩, hB⟩ hK
    have hb : plcB h p = b.val := by
      have hqb : upto k = q ++ [b] := by rw [← hpre, e1]
      have hlen : q.length + 1 = k := by have := congrArg List.length hqb; rw [upto_length hk] at this; simp at this; omega
      have hql : q = upto q.length ∧ b.val = q.length := by
        have hlt : q.length < 16 := by omega
        rw [← hlen, upto_succ hlt] at hqb
        have := List.append_inj' hqb rfl
        refine ⟨this.1.symm, ?_⟩
        have h2 := this.2
        simp at h2
        rw [← h2]
      refine plcB_is b.isLt (fun j hj => ?_) e3
      have hj16 : j < 16 := by omega
      have := e2 ⟨j, hj16⟩ (by
        rw [hql.1, upto, List.mem_take_iff_getElem]
        exact ⟨j, by simp; omega, by simp⟩)
      exact this
    refine wpIn_wide.2 ?_
    go_wp2
    refine ⟨by simp, .inl ⟨_, _, rfl, run_takeDeferred hK, ?_⟩⟩
    have hc4 := cell_kept e4 (grownBy_putObj' _ D (.deferred none)) (fun r e => by cases e; exact ⟨_, hK, rfl⟩)
    have hc5 := cell_kept e5 (grownBy_putObj' _ D (.deferred none)) (fun r e => by cases e; exact ⟨_, hK, rfl⟩)
    refine ⟨.tuple #[.int .i64 ((b.val : Nat) : Int), .bool true], ?_, by rw [hb], hB.trans (belowK_b (w := w) (Nat.le_refl _) W D _ _ (by simp at hD; omega) hK rfl rfl)⟩
    simp [results, Try.f40, go_sem, hc4, hc5]
end Go.Proofs.Yteifjlhkfmoljaa
