/- An operation is entered into a table. -/
import Derived.Test.YtddmajgadaooaaaOpTab
set_option linter.unusedVariables false
namespace Go.Proofs.Ytddmajgadaooaaa
open Go.RowKit

theorem op_range {w : World} {b : Nat} {x : OpV} (h : w.heap[b]? = some (.cells x.cells.toArray 30 (0, 0))) : w.rangeAt b 0 x.cells := fun j v hv => by
  rw [cell_of_row w b (0 + j) _ _ (0, 0) h]
  simpa using hv
theorem fli_range {w : World} {b : Nat} {x : Fli} (h : w.heap[b]? = some (.cells x.cells.toArray 65 (0, 0))) : w.rangeAt b 0 x.cells := fun j v hv => by
  rw [cell_of_row w b (0 + j) _ _ (0, 0) h]
  simpa using hv
theorem fliRow (x : Fli) : (Try.prog.info? 65).map (·.size) = some x.cells.length := by
  show _ = some 4
  kernel_rfl
theorem fliOne (x : Fli) : x.cells.toArray.all (·.oneCell') = true := by simp [Fli.cells, Acn.cells, Value.oneCell']
def zeroFli : Fli := ⟨0, ⟨#[]⟩, ⟨#[]⟩, ⟨#[]⟩⟩
theorem opRow (x : OpV) : (Try.prog.info? 30).map (·.size) = some x.cells.length := opOk.row x
theorem fliRow' (x : Fli) : (Try.prog.info? 65).map (·.size) = some x.cells.toArray.size := fliRow x
theorem acnRow (x : Acn) : (Try.prog.info? 27).map (·.size) = some x.cells.length := by
  show _ = some 3
  kernel_rfl
theorem fli_built (f : Fli) : Try.prog.built 65 [(0, .int .i64 f.ten), (1, .agg f.a.cells.toArray)] = some f.cells.toArray := by
  obtain ⟨t, k, c, n⟩ := f
  kernel_rfl
theorem op_acn {w : World} {b o : Nat} {x : OpV} (h : w.rangeAt b o x.cells) : w.rangeAt b (o + 3) x.acn.cells := fun j v hv => by
  rw [Nat.add_assoc]
  refine h (3 + j) v ?_
  match j, hv with
  | 0, hv => exact hv
  | 1, hv => exact hv
  | 2, hv => exact hv
  | j + 3, hv => simp [OpV.acn, Acn.cells] at hv
theorem wl_buildS {ops : Array Oper} {rest : List Oper} {o : Oper} {a : Act} {w : World} {Q : Exit → Act → World → Prop} (hg : o.guard = none) (t : TypeId) (parts : Array (Nat × Operand)) (ho : o.op = .build t parts)
    (ps : List (Nat × Value)) (hp : (parts.map fun (i, x) => (i, a.eval x)).toList = ps) (cells : Array Value) (hf : Try.prog.built t ps = some cells)
    (h : wpList Try.prog ops Q rest (a.put o.dst (.agg cells)) w) : wpList Try.prog ops Q (o :: rest) a w := by
  refine wpList_plain hg fun _ hK => ?_
  unfold Oper.wp execOp
  simp only [ho, Sem.run_bind, run_build w t _ _ (hp ▸ hf), Result.andThen_ok]
  exact hK _ _ h
theorem upd_grown {w w' : World} {b : Option Nat} (h : w.grownBy w' b) : Upd b.toList w w' :=
  ⟨h.os, h.tape, h.output, h.size, fun k hk hn => h.block k hk (fun e => hn (by rw [← e]; simp))⟩
theorem below_row {n : Nat} {w0 w : World} {g : Nat} (h : Below n w0 w) (hg : n ≤ g) (cs : Array Value) : Below n w0 (w.setRow g cs) :=
  h.trans ⟨rfl, rfl, rfl, by simp [World.setRow], fun i hi => setRow_other _ _ _ _ (by omega)⟩
/-- A flight's list, where there is none too. -/
theorem own0 {T : Nat → Prop} {w : World} {t : Nat} {keep next : Int} {lv ev : Value} {m fm : Nat} {sl : Fli → Value} {A D : List Int} {M : Int → Option Value} {fl : Fli → List Int} (h : OMem T w t keep next lv ev m fm sl A D M fl) (g : Fli) :
    ∃ v0, v0 = (if fl g = [] then none else some (sl g)).getD (.slice none 0 0) ∧ Owns intR 0 w v0 (fl g) ∧ ∀ k, v0.ownBlock = some k → fl g ≠ [] ∧ (sl g).ownBlock = some k := by
  by_cases hg : fl g = []
  · refine ⟨_, rfl, ?_, fun k hk => ?_⟩
    · rw [if_pos hg, hg]; exact Owns.nil _ _ _
    · rw [if_pos hg] at hk; cases hk
  · refine ⟨_, rfl, ?_, fun k hk => ?_⟩
    · rw [if_neg hg]; exact h.each g hg
    · rw [if_neg hg] at hk; exact ⟨hg, hk⟩
/-- In every later world. -/
theorem later_range {W : World} {b o : Nat} {cs : List Value} (h : W.rangeAt b o cs) (w' : World) (hx : ∃ x : Later W, w' = x.w) : w'.rangeAt b o cs := by
  obtain ⟨z, rfl⟩ := hx
  exact below_range z.h h

/-- What entering has done. -/
def Entered (T : Nat → Prop) (w : World) (t : Nat) (keep next : Int) (ev : Value) (m fm : Nat) (A D : List Int) (M : Int → Option Value) (fl : Fli → List Int) (o : OpV) (e : Ending) (w' : World) : Prop :=
  e = .returned (.tuple #[]) ∧ UpdP T w w' ∧ ∃ lv sl, OMem (Gr T w w') w' t keep next lv ev m fm sl (A ++ [o.id]) D (fun i => if i = o.id then some (opR.val o) else M i) (fun f => if f = o.fli then fl o.fli ++ [o.id] else fl f)

set_option maxRecDepth 100000 in
set_option maxHeartbeats 4000000 in
theorem enter_any (T : Nat → Prop) (w : World) (t : Nat) (keep next : Int) (lv ev : Value) (m fm : Nat) (sl : Fli → Value) (A D : List Int) (M : Int → Option Value) (fl : Fli → List Int) (h : OMem T w t keep next lv ev m fm sl A D M fl) (o : OpV)
    (hA : A.length ≤ 1000) (hfl : (fl o.fli).length ≤ 1000) :
    Calls Try.prog 27 #[.pointer (some ⟨t, 0, none⟩), .agg o.cells.toArray] w (Entered T w t keep next ev m fm A D M fl o) := by
  have hb1 : Below w.heap.size w (w.alloc (.cells o.cells.toArray 30)) := (Below.refl _ _).alloc (Nat.le_refl _) _
  have hn1 : (w.alloc (.cells o.cells.toArray 30)).heap[w.heap.size]? = some (.cells o.cells.toArray 30 (0, 0)) := heap_alloc_new _ _
  have hs1 : (w.alloc (.cells o.cells.toArray 30)).heap.size = w.heap.size + 1 := by simp
  obtain ⟨W1, hW1⟩ : ∃ W1, W1 = w.alloc (.cells o.cells.toArray 30) := ⟨_, rfl⟩
  rw [← hW1] at hb1 hn1 hs1
  have HM1 := Lib.hid (h.below hb1)
  have HN := Lib.hid hn1
  have HB1 := Lib.hid hb1
  have hLT := Lib.hid h.lt
  clear h hn1
  go_enter Try.func27, Try.ntmps27
  go_upto_region 1 with fail
  show Code.wp _ _ _ _ (w.alloc (.cells o.cells.toArray 30))
  rw [← hW1]
  clear hW1 hb1
  have c4 := HM1.out.box.get (i := 4) rfl
  have k0 := (op_range HN.out) 0 _ rfl
  have d0 := fun (z : Later W1) => z.cell c4
  have d1 := fun (z : Later W1) => z.cell (show W1.cell? ⟨w.heap.size, 0, none⟩ = some (.int .i64 o.id) from by simpa using k0)
  have RT := Lib.hid (fun w' hx => later_range (op_range HN.out) w' hx)
  clear c4 k0
  refine Mix.wp_region_mix_tail 7 [] [0, 1, 2, 3, 4, 5, 6] (fun w' => ∃ x : Later W1, w' = x.w) (by kernel_rfl) (by kernel_rfl) (Mix.later_drew W1) ?_
  simp only [List.take_succ_cons, List.take_zero, List.drop_succ_cons, List.drop_zero]
  refine Mix.stages_nil ?_
  simp only [Mix.pickL, List.getElem?_cons_zero, List.getElem?_cons_succ]
  repeat (first
    | go_big_quiet_skip
    | (go_big_quiet_want; first
      | (refine quiet_load_mid 30 _ rfl w.heap.size 0 rfl o.cells _ RT.out Try.underlying30 rfl (opRow o) ?_; simp only [Act.put, List.setIfInBounds_toArray, List.set_cons_succ, List.set_cons_zero]; go_big_quiet_on)
      | (go_big_quiet_op; go_big_quiet_on)))
  refine wpQuiet_nil ?_
  clear d0 d1 RT
  have hb2 : Below W1.heap.size W1 W1.drew := (Below.refl _ _).drew
  have HM2 := Lib.hid (HM1.out.below hb2)
  have HN2 := Lib.hid (kept hb2 HN.out)
  have HB2 := Lib.hid (bthen' HB1.out hb2)
  have hs2 := hb2.size
  generalize W1.drew = W2 at hb2 HM2 HN2 HB2 hs2 ⊢
  obtain ⟨n2, hops⟩ := HM2.out.ops
  have HOP := Lib.hid hops
  clear hops
  go_wp2_with (refine wl_update (intK_ok Try.underlying3) rfl _ _ _ 57 30 rfl Try.underlying57 rfl HOP.out o.id rfl (opR.val o) rfl ?_; intro W3 hu3 hm3)
  have HM3 := Lib.hid (HM2.out.setOps hu3 hm3)
  have hlt := HM2.out.lt
  have hmt := HM1.out.lt m HM1.out.tT.2.1
  have hlt0 : ∀ k, T k → k < w.heap.size := hLT.out
  have ho0 : ¬ T w.heap.size := fun hT => by have := hlt0 _ hT; omega
  have HN3 := Lib.hid (hu3.heap (show w.heap.size ∉ [m] by intro hin; simp at hin; exact ho0 (by rw [hin]; exact HM2.out.tT.2.1)) HN2.out)
  have HU3 := Lib.hid ((UpdP.ofB (P := T) HB2.out).trans (UpdP.of hu3 (fun k hk => by simp at hk; subst hk; exact .inl (.inl HM2.out.tT.2.1))))
  have hs3 := hu3.size
  clear hu3 hm3 HOP hlt hmt
  have c2 := HM3.out.box.get (i := 2) rfl
  have f2 := HM3.out.box.free (i := 2) rfl
  have k0 : W3.cell? ⟨w.heap.size, 0, none⟩ = some (.int .i64 o.id) := by simpa using (op_range HN3.out) 0 _ rfl
  obtain ⟨al, cl, hlv⟩ := HM3.out.live.form
  subst hlv
  simp only [Mix.OnlyN]
  go_upto_region 2 with fail
  have d0 := fun (z : Mix.InS (fun z => z.cell? ⟨t, 2, none⟩ = some (.slice al A.length cl) ∧ z.cell? ⟨w.heap.size, 0, none⟩ = some (.int .i64 o.id))) => z.h.1
  have d1 := fun (z : Mix.InS (fun z => z.cell? ⟨t, 2, none⟩ = some (.slice al A.length cl) ∧ z.cell? ⟨w.heap.size, 0, none⟩ = some (.int .i64 o.id))) => z.h.2
  have hne : Nonempty (Mix.InS (fun z => z.cell? ⟨t, 2, none⟩ = some (.slice al A.length cl) ∧ z.cell? ⟨w.heap.size, 0, none⟩ = some (.int .i64 o.id))) := ⟨⟨W3, c2, k0⟩⟩
  refine Mix.wp_region_mix_tail 11 [([0, 1, 2, 3, 4, 5, 6], 7), ([], 8)] [9, 10] (fun w' => ∃ x : Mix.InS (fun z => z.cell? ⟨t, 2, none⟩ = some (.slice al A.length cl) ∧ z.cell? ⟨w.heap.size, 0, none⟩ = some (.int .i64 o.id)), w' = x.w) (by kernel_rfl) (by kernel_rfl) (Mix.inS_mk ⟨c2, k0⟩) ?_
  simp only [List.take_succ_cons, List.take_zero, List.drop_succ_cons, List.drop_zero]
  have hb4 : Below W3.heap.size W3 W3.drew := (Below.refl _ _).drew
  have HM4 := Lib.hid (HM3.out.below hb4)
  have HB4 := Lib.hid hb4
  generalize W3.drew = W4 at hb4 HM4 HB4 ⊢
  refine Mix.stages_cons ?_
  simp only [Mix.pickL, List.getElem?_cons_zero, List.getElem?_cons_succ]
  repeat (first
    | go_big_quiet_skip
    | (go_big_quiet_want; (go_big_quiet_op; go_big_quiet_on)))
  refine wpQuiet_nil ?_
  go_wp2_with (refine wl_build_rec intOk rfl _ rfl o.id rfl ?_; have hx5 := built_range (R := intR) (w := W4) o.id; have hb5 : Below W4.heap.size W4 (W4.alloc (.cells (intR.val o.id).cells intR.ty)) := (Below.refl _ _).alloc (Nat.le_refl _) _; generalize W4.alloc (.cells (intR.val o.id).cells intR.ty) = W5 at hx5 hb5 ⊢)
  have HM5 := Lib.hid (HM4.out.below hb5)
  have HB5 := Lib.hid (bthen' HB4.out hb5)
  have hk5 : W5.cell? ⟨t, 2, none⟩ = some (.slice al A.length cl) ∧ W5.cell? ⟨w.heap.size, 0, none⟩ = some (.int .i64 o.id) := ⟨below_cell HB5.out c2, below_cell HB5.out k0⟩
  refine Mix.onward_in hk5 ?_
  refine Mix.stages_cons ?_
  simp only [Mix.pickL, List.getElem?_cons_zero, List.getElem?_cons_succ]
  refine wpQuiet_nil ?_
  have HO5 := Lib.hid HM5.out.live
  have HX5 := Lib.hid hx5
  clear hx5
  go_wp2_with (refine wl_append_rec intOk rfl _ _ rfl 0 _ A rfl HO5.out W4.heap.size 0 1 o.id rfl HX5.out (by omega) (by omega) ?_; intro g6 cap6 W6 hO6 hg6 hat6)
  have hU6 := upd_grown hg6
  have hF6 : ∀ k ∈ (Value.slice al A.length cl).ownBlock.toList, (Value.slice al A.length cl).ownBlock = some k := fun k hk => by simpa using hk
  have hnt : t ∉ (Value.slice al A.length cl).ownBlock.toList := fun hin => (HM5.out.dl t (hF6 t hin)).2.1 rfl
  have hno : w.heap.size ∉ (Value.slice al A.length cl).ownBlock.toList := fun hin => ho0 (HM5.out.dl _ (hF6 _ hin)).1
  have hk6 : W6.cell? ⟨t, 2, none⟩ = some (.slice al A.length cl) ∧ W6.cell? ⟨w.heap.size, 0, none⟩ = some (.int .i64 o.id) := ⟨hU6.cell hnt hk5.1, hU6.cell hno hk5.2⟩
  have hf6 : W6.frozen? ⟨t, 2, none⟩ = false := (hU6.frozen hnt hk5.1).trans (HM5.out.box.free (i := 2) rfl)
  refine Mix.onward_in hk6 ?_
  refine Mix.stages_nil ?_
  simp only [Mix.pickL, List.getElem?_cons_zero, List.getElem?_cons_succ]
  repeat (first
    | go_big_quiet_skip
    | (go_big_quiet_want; (go_big_quiet_op; go_big_quiet_on)))
  refine wpQuiet_nil ?_
  clear d0 d1 hne
  have c6 := hk6.1
  go_wp2_with fail
  have HM7 := Lib.hid (HM5.out.setLive hU6 (fun k hk => .inl (hF6 k hk)) hO6 (fun k hk => by
    simp [Value.ownBlock] at hk
    subst hk
    rcases hat6 with h9 | h9
    · exact .inl h9
    · exact .inr (by omega)))
  have hUs : UpdP (Gr T w W3) W3 (W6.setCell ⟨t, 2, none⟩ (.slice (some ⟨g6, 0, none⟩) (A.length + 1) cap6)) :=
    (UpdP.ofB HB5.out).trans (UpdP.trans (UpdP.of hU6 (fun k hk => .inl (.inl (.inl (HM5.out.dl k (hF6 k hk)).1)))) (UpdP.of ((Upd.refl [t] W6).setCell (by simp) _) (fun k hk => by simp at hk; subst hk; exact .inl (.inl (.inl (.inl HM5.out.tT.1))))))
  have HU7 := Lib.hid (HU3.out.trans hUs)
  have hn7 : (W6.setCell ⟨t, 2, none⟩ (.slice (some ⟨g6, 0, none⟩) (A.length + 1) cap6)).heap[w.heap.size]? = some (.cells o.cells.toArray 30 (0, 0)) := by
    have hto : w.heap.size ≠ t := fun e => ho0 (e ▸ HM5.out.tT.1)
    exact ((Upd.refl [t] W6).setCell (by simp) _).heap (by simpa using hto) (hU6.heap hno (kept HB5.out HN3.out))
  have HN7 := Lib.hid hn7
  have hsz7 : W6.heap.size ≤ (W6.setCell ⟨t, 2, none⟩ (.slice (some ⟨g6, 0, none⟩) (A.length + 1) cap6)).heap.size := by simp [World.setCell]
  have hs36 : W3.heap.size ≤ W5.heap.size ∧ W5.heap.size ≤ W6.heap.size := ⟨HB5.out.size, hU6.size⟩
  have hs12 := HB2.out.size
  generalize W6.setCell ⟨t, 2, none⟩ (.slice (some ⟨g6, 0, none⟩) (A.length + 1) cap6) = W7 at HM7 HU7 HN7 hsz7 ⊢
  clear hn7 hUs hk5 hk6 hf6 hnt hno hF6 hO6 hg6 hat6 hU6 c2 f2 k0 c6
  clear hb4 hb5 HO5 HX5 HM5 HB5 HM4 HB4
  have k1 : W7.cell? ⟨w.heap.size, 1, none⟩ = some (.int .i64 o.ten) := by simpa using (op_range HN7.out) 1 _ rfl
  have ra : W7.rangeAt w.heap.size 3 o.acn.cells := by simpa using op_acn (op_range HN7.out)
  simp only [Mix.OnlyN]
  go_upto_region 4 with (first
    | (refine wpList_load_mid rfl 27 _ rfl w.heap.size 3 rfl o.acn.cells _ ra Try.underlying27 rfl (acnRow o.acn) ?_)
    | (refine wl_buildS rfl 65 _ rfl [(0, .int .i64 o.ten), (1, .agg o.acn.cells.toArray)] (by kernel_rfl) o.fli.cells.toArray (fli_built o.fli) ?_)
    | (refine wpList_store_row rfl 65 _ _ rfl W7.heap.size o.fli.cells.toArray rfl rfl 65 zeroFli.cells.toArray (heap_alloc_new _ _) (fliRow' o.fli) rfl (fliOne o.fli) ?_))
  show Code.wp _ _ _ _ ((W7.alloc (.cells zeroFli.cells.toArray 65)).setRow W7.heap.size o.fli.cells.toArray)
  have hn8 : ((W7.alloc (.cells zeroFli.cells.toArray 65)).setRow W7.heap.size o.fli.cells.toArray).heap[W7.heap.size]? = some (.cells o.fli.cells.toArray 65 (0, 0)) := setRow_heap _ _ _ _ _ _ (heap_alloc_new _ _)
  have hb8 : Below W7.heap.size W7 ((W7.alloc (.cells zeroFli.cells.toArray 65)).setRow W7.heap.size o.fli.cells.toArray) := below_row ((Below.refl _ _).alloc (Nat.le_refl _) _) (Nat.le_refl _) _
  have HM8 := Lib.hid (HM7.out.below hb8)
  have HN8 := Lib.hid (kept hb8 HN7.out)
  have HF8 := Lib.hid hn8
  have HU8 := Lib.hid (HU7.out.trans (UpdP.ofB hb8))
  have hs8 := hb8.size
  have hq8 := lt_of_block hn8
  generalize (W7.alloc (.cells zeroFli.cells.toArray 65)).setRow W7.heap.size o.fli.cells.toArray = W8 at HM8 HN8 HF8 HU8 hs8 hq8 ⊢
  obtain ⟨q8, hq8e⟩ : ∃ q8, q8 = W7.heap.size := ⟨_, rfl⟩
  rw [← hq8e] at HF8 hq8 ⊢
  have hq7 : W7.heap.size ≤ q8 := by omega
  clear hn8 hb8 k1 ra hq8e
  (try simp only [Act.put])
  have hT8 : ∀ k, (Gr T W5 W6) k → k < W7.heap.size := HM7.out.lt
  have hnT0 : ¬ (Gr T W5 W6) w.heap.size := fun hT => by rcases hT with h9 | h9; exact ho0 h9; omega
  have hnTq : ¬ (Gr T W5 W6) q8 := fun hT => by have := hT8 _ hT; omega
  have c5 := HM8.out.box.get (i := 5) rfl
  have k0 : W8.cell? ⟨w.heap.size, 0, none⟩ = some (.int .i64 o.id) := by simpa using (op_range HN8.out) 0 _ rfl
  have rf := fli_range HF8.out
  have d0 := fun (z : Mix.InS (fun z => z.cell? ⟨t, 5, none⟩ = some (.map (some fm)) ∧ z.cell? ⟨w.heap.size, 0, none⟩ = some (.int .i64 o.id) ∧ z.rangeAt q8 0 o.fli.cells)) => z.h.1
  have d1 := fun (z : Mix.InS (fun z => z.cell? ⟨t, 5, none⟩ = some (.map (some fm)) ∧ z.cell? ⟨w.heap.size, 0, none⟩ = some (.int .i64 o.id) ∧ z.rangeAt q8 0 o.fli.cells)) => z.h.2.1
  have RT := Lib.hid (fun (w' : World) (hx : ∃ x : Mix.InS (fun z => z.cell? ⟨t, 5, none⟩ = some (.map (some fm)) ∧ z.cell? ⟨w.heap.size, 0, none⟩ = some (.int .i64 o.id) ∧ z.rangeAt q8 0 o.fli.cells), w' = x.w) => (show w'.rangeAt q8 0 o.fli.cells from by obtain ⟨z, rfl⟩ := hx; exact z.h.2.2))
  have hne : Nonempty (Mix.InS (fun z => z.cell? ⟨t, 5, none⟩ = some (.map (some fm)) ∧ z.cell? ⟨w.heap.size, 0, none⟩ = some (.int .i64 o.id) ∧ z.rangeAt q8 0 o.fli.cells)) := ⟨⟨W8, c5, k0, rf⟩⟩
  refine Mix.wp_region_mix [([0, 1, 2, 3, 4, 5, 6], 7), ([], 8), ([9, 11], 10), ([], 12)] [] (fun w' => ∃ x : Mix.InS (fun z => z.cell? ⟨t, 5, none⟩ = some (.map (some fm)) ∧ z.cell? ⟨w.heap.size, 0, none⟩ = some (.int .i64 o.id) ∧ z.rangeAt q8 0 o.fli.cells), w' = x.w) (by kernel_rfl) (by kernel_rfl) (Mix.inS_mk ⟨c5, k0, rf⟩) ?_
  have hb9 : Below W8.heap.size W8 W8.drew := (Below.refl _ _).drew
  have HB9 := Lib.hid hb9
  generalize W8.drew = W9 at hb9 HB9 ⊢
  refine Mix.stages_cons ?_
  simp only [Mix.pickL, List.getElem?_cons_zero, List.getElem?_cons_succ]
  repeat (first
    | go_big_quiet_skip
    | (go_big_quiet_want; first
      | (refine quiet_load_mid 65 _ rfl q8 0 rfl o.fli.cells _ RT.out Try.underlying65 rfl (fliRow o.fli) ?_; simp only [Act.put, List.setIfInBounds_toArray, List.set_cons_succ, List.set_cons_zero]; go_big_quiet_on)
      | (go_big_quiet_op; go_big_quiet_on)))
  refine wpQuiet_nil ?_
  go_wp2_with (refine wl_build_rec intOk rfl _ rfl o.id rfl ?_; have hx10 := built_range (R := intR) (w := W9) o.id; have hb10 : Below W9.heap.size W9 (W9.alloc (.cells (intR.val o.id).cells intR.ty)) := (Below.refl _ _).alloc (Nat.le_refl _) _; generalize W9.alloc (.cells (intR.val o.id).cells intR.ty) = W10 at hx10 hb10 ⊢)
  have HB10 := Lib.hid (bthen' HB9.out hb10)
  have HM10 := Lib.hid (HM8.out.below HB10.out)
  have HX10 := Lib.hid hx10
  have hk10 : W10.cell? ⟨t, 5, none⟩ = some (.map (some fm)) ∧ W10.cell? ⟨w.heap.size, 0, none⟩ = some (.int .i64 o.id) ∧ W10.rangeAt q8 0 o.fli.cells := ⟨below_cell HB10.out c5, below_cell HB10.out k0, below_range HB10.out rf⟩
  have hs8to := HB10.out.size
  clear hx10 hb10 hb9
  refine Mix.onward_in hk10 ?_
  refine Mix.stages_cons ?_
  simp only [Mix.pickL, List.getElem?_cons_zero, List.getElem?_cons_succ]
  refine wpQuiet_nil ?_
  obtain ⟨n10, hfl10⟩ := HM10.out.fls
  have HFL := Lib.hid hfl10
  clear hfl10
  obtain ⟨v0, hv0, hO0, hown0⟩ := own0 HM10.out o.fli
  have HV0 := Lib.hid hv0
  have HO0 := Lib.hid hO0
  clear hO0 hv0
  go_wp2_with (refine wl_entryS fliOk rfl _ _ 58 59 rfl Try.underlying58 (z := .slice none 0 0) (fun w => Try.zeroValue59 w) rfl HFL.out o.fli rfl ?_; rw [← HV0.out]; intro W11 st hu11 hE11)
  have hs11 := hu11.size
  have hTf : (Gr T W5 W6) fm := HM8.out.tT.2.2
  have htf : t ≠ fm := HM8.out.tm.2
  have hk11 : W11.cell? ⟨t, 5, none⟩ = some (.map (some fm)) ∧ W11.cell? ⟨w.heap.size, 0, none⟩ = some (.int .i64 o.id) ∧ W11.rangeAt q8 0 o.fli.cells :=
    ⟨hu11.cell (by simpa using htf) hk10.1, hu11.cell (by simp; intro e; exact hnT0 (e ▸ hTf)) hk10.2.1, hu11.range (by simp; intro e; exact hnTq (e ▸ hTf)) hk10.2.2⟩
  refine Mix.onward_in hk11 ?_
  refine Mix.stages_cons ?_
  simp only [Mix.pickL, List.getElem?_cons_zero, List.getElem?_cons_succ]
  repeat (first
    | go_big_quiet_skip
    | (go_big_quiet_want; (go_big_quiet_op; go_big_quiet_on)))
  refine wpQuiet_nil ?_
  have hv0m : ∀ k, v0.ownBlock = some k → k ≠ fm := fun k hk => (HM10.out.ds o.fli (hown0 k hk).1 k (hown0 k hk).2).2.2.2.1
  have HO11 := Lib.hid (HO0.out.upd hu11 (fun k hk => by simpa using hv0m k hk))
  have HX11 := Lib.hid (hu11.range (show W9.heap.size ∉ [fm] by simp; intro e; have := hT8 fm hTf; have := HB9.out.size; omega) HX10.out)
  have hs9 := HB9.out.size
  go_wp2_with (refine wl_append_rec intOk rfl _ _ rfl 0 _ (fl o.fli) rfl HO11.out W9.heap.size 0 1 o.id rfl HX11.out (by omega) (by omega) ?_; intro g12 cap12 W12 hO12 hg12 hat12)
  have hU12 : Upd v0.ownBlock.toList W11 W12 := upd_grown hg12
  have hF12 : ∀ k ∈ v0.ownBlock.toList, v0.ownBlock = some k := fun k hk => by simpa using hk
  have hno12 : ∀ k, (k = t ∨ k = fm ∨ k = w.heap.size ∨ k = q8) → k ∉ v0.ownBlock.toList := fun k hk hin => by
    obtain ⟨hg, ho⟩ := hown0 k (hF12 k hin)
    obtain ⟨a, b, c, d, -⟩ := HM10.out.ds o.fli hg k ho
    rcases hk with rfl | rfl | rfl | rfl
    · exact b rfl
    · exact d rfl
    · exact hnT0 a
    · exact hnTq a
  have hk12 : W12.cell? ⟨t, 5, none⟩ = some (.map (some fm)) ∧ W12.cell? ⟨w.heap.size, 0, none⟩ = some (.int .i64 o.id) ∧ W12.rangeAt q8 0 o.fli.cells :=
    ⟨hU12.cell (hno12 t (.inl rfl)) hk11.1, hU12.cell (hno12 _ (.inr (.inr (.inl rfl)))) hk11.2.1, hU12.range (hno12 _ (.inr (.inr (.inr rfl)))) hk11.2.2⟩
  refine Mix.onward_in hk12 ?_
  refine Mix.stages_cons ?_
  simp only [Mix.pickL, List.getElem?_cons_zero, List.getElem?_cons_succ]
  refine wpQuiet_nil ?_
  have HE12 := Lib.hid (hE11.upd hU12 (hno12 fm (.inr (.inl rfl))))
  clear hE11
  go_wp2_with (refine wl_entryStoreS rfl _ _ _ 58 rfl rfl o.fli st HE12.out rfl _ rfl ?_; intro W13 hu13 hm13)
  have hk13 : W13.cell? ⟨t, 5, none⟩ = some (.map (some fm)) ∧ W13.cell? ⟨w.heap.size, 0, none⟩ = some (.int .i64 o.id) ∧ W13.rangeAt q8 0 o.fli.cells :=
    ⟨hu13.cell (by simpa using htf) hk12.1, hu13.cell (by simp; intro e; exact hnT0 (e ▸ hTf)) hk12.2.1, hu13.range (by simp; intro e; exact hnTq (e ▸ hTf)) hk12.2.2⟩
  refine Mix.onward_in hk13 ?_
  refine Mix.stages_nil ?_
  simp only [Mix.pickL]
  refine wpQuiet_nil ?_
  clear d0 d1 hne hk10 hk11 hk12 hk13 c5 k0 rf RT
  go_wp2_with fail
  go_end0
  have hUall : Upd (fm :: v0.ownBlock.toList) W10 W13 := ((hu11.mono (by simp)).trans (hU12.mono (fun i hi => List.mem_cons_of_mem _ hi))).trans (hu13.mono (by simp))
  have hfmlt := HM10.out.lt fm hTf
  have hs12' := hU12.size
  have hs13 := hu13.size
  have hS : OMem (Gr (Gr T W5 W6) W10 W13) W13 t keep next _ ev m fm _ _ D _ _ := HM10.out.setFl (g := o.fli) (v' := .slice (some ⟨g12, 0, none⟩) ((fl o.fli).length + 1) cap12) (l' := fl o.fli ++ [o.id]) hUall (fun k hk => by
      rcases List.mem_cons.1 hk with h9 | h9
      · exact .inl h9
      · exact .inr (.inl (hown0 k (hF12 k h9)))) ⟨_, hm13.congr (fun x => by
        by_cases hx : x = o.fli
        · rw [if_pos hx, if_pos hx, if_pos hx, if_neg (by simp)]
          rfl
        · rw [if_neg hx, if_neg hx, if_neg hx, if_neg hx])⟩ (fun _ => hO12.upd hu13 (fun k hk => by
      simp [Value.ownBlock] at hk
      subst hk
      rcases hat12 with h9 | h9
      · simpa using hv0m _ h9
      · simp; omega)) (fun _ k hk => by
      simp [Value.ownBlock] at hk
      subst hk
      rcases hat12 with h9 | h9
      · exact .inl (hown0 _ h9)
      · exact .inr (by omega))
  have hsub : ∀ k, Gr T W5 W6 k → Gr T w W8 k := fun k hk => by
    rcases hk with h9 | h9
    · exact .inl h9
    · exact .inr (by omega)
  refine ⟨rfl, HU8.out.trans (UpdP.trans (UpdP.ofB HB10.out) (UpdP.of hUall (fun k hk => ?_))), _, _, hS.wider (fun k hk => ?_) (fun k hk => ?_)⟩
  · rcases List.mem_cons.1 hk with h9 | h9
    · subst h9; exact .inl (.inl (hsub _ hTf))
    · exact .inl (.inl (hsub k (HM10.out.ds o.fli (hown0 k (hF12 k h9)).1 k (hown0 k (hF12 k h9)).2).1))
  · rcases hk with (h9 | h9) | h9
    · exact .inl h9
    · exact .inr (by omega)
    · exact .inr (by omega)
  · rcases hk with h9 | h9
    · have := hlt0 k h9; omega
    · omega
end Go.Proofs.Ytddmajgadaooaaa
