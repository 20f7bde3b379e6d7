/- Invocations: Last, Get, Find. -/
import Derived.Test.YtogajmbkjojdhaaInvAll
set_option linter.unusedVariables false
set_option linter.unusedSimpArgs false
set_option maxRecDepth 100000
namespace Go.Proofs.Ytogajmbkjojdhaa
open Go.RowKit

theorem below_row {n : Nat} {w0 w : World} {g : Nat} (h : Below n w0 w) (hg : n ≤ g) (cs : Array Value) : Below n w0 (w.setRow g cs) :=
  h.trans ⟨rfl, rfl, rfl, by simp [World.setRow], fun i hi => by
    unfold World.setRow
    simp only [Array.getElem?_modify]
    rw [if_neg (by omega)]⟩
theorem setRow_heap {w : World} {g : Nat} {cs0 : Array Value} {t : TypeId} {fr : Nat × Nat} (cs : Array Value) (h : w.heap[g]? = some (.cells cs0 t fr)) : (w.setRow g cs).heap[g]? = some (.cells cs t fr) := by
  unfold World.setRow
  simp only [Array.getElem?_modify, if_pos, h, Option.map_some]
theorem results_row_tmp {P : Program} {fn : Func} {p q : Tmp} {ty : TypeId} (h : fn.results = #[.cell p ty, .tmp q]) (tmps : Array Value) (w : World) (g : Nat) (cs : List Value) (d : TypeDesc)
    (hp : tmps.getD p undef = .pointer (some ⟨g, 0, none⟩)) (hg : w.rangeAt g 0 cs) (hu : P.underlying ty = some d) (hd : d.isRow = true) (hi : (P.info? ty).map (·.size) = some cs.length) :
    (results fn tmps).run P w = .ok (.tuple #[.agg cs.toArray, tmps.getD q undef]) w := by
  have hp' : tmps[p]?.getD undef = .pointer (some ⟨g, 0, none⟩) := by simpa using hp
  simp [results, h, hp', asAddr, run_loadVar_mid w g 0 ty cs d hg hu hd hi]
theorem builtZ : Try.prog.built 32 [] = some (ivR.cells zeroIv).toArray := by kernel_rfl
theorem ivRow (x : Iv) : (Try.prog.info? 32).map (·.size) = some (ivR.cells x).toArray.size := by kernel_rfl
theorem ivRowL (x : Iv) : (Try.prog.info? 32).map (·.size) = some (ivR.cells x).length := by kernel_rfl
theorem last_any {w : World} {v nm lm : Nat} {c : Cfg} {last : Int} {L : List Iv} (h : InvM w v nm lm c last L) :
    Calls Try.prog 20 #[.pointer (some ⟨v, 0, none⟩)] w fun e w' => e = .returned (.int .i64 last) ∧ w = w' := by
  have c19 := h.cel.get (i := 19) rfl
  clear h
  go_enter Try.func20, Try.ntmps20
  go_wp2_with fail
  go_ret
  exact ⟨rfl, rfl⟩
theorem last_nil (w : World) : Calls Try.prog 20 #[.pointer none] w fun e w' => e = .returned (.int .i64 0) ∧ w = w' := by
  go_enter Try.func20, Try.ntmps20
  go_wp2_with fail
  go_ret
  exact ⟨rfl, rfl⟩
theorem all_nil (w : World) : Calls Try.prog 9 #[.pointer none] w fun e w' => e = .returned (.slice none 0 0) ∧ w = w' := by
  go_enter Try.func9, Try.ntmps9
  go_wp2_with fail
  go_ret
  exact ⟨rfl, rfl⟩
def GotI (w : World) (o : Option Iv) (e : Ending) (w' : World) : Prop := e = .returned (.tuple #[ivR.val (o.getD zeroIv), .bool o.isSome]) ∧ Below w.heap.size w w'
set_option maxHeartbeats 2000000 in
theorem get_nil (w : World) (n : Int) : Calls Try.prog 11 #[.pointer none, .int .i64 n] w (GotI w none) := by
  have hb1 : Below w.heap.size w (w.alloc (.cells (ivR.cells zeroIv).toArray 32)) := (Below.refl _ _).alloc (Nat.le_refl _) _
  have hn1 := heap_alloc_new w (.cells (ivR.cells zeroIv).toArray 32)
  obtain ⟨W1, hW1⟩ : ∃ W1, W1 = w.alloc (.cells (ivR.cells zeroIv).toArray 32) := ⟨_, rfl⟩
  rw [← hW1] at hb1 hn1
  have HN1 := Lib.hid hn1
  have HB1 := Lib.hid hb1
  clear hn1 hb1
  go_enter Try.func11, Try.ntmps11
  go_upto_region 1 with fail
  show Code.wp _ _ _ _ (w.alloc (.cells (ivR.cells zeroIv).toArray 32))
  rw [← hW1]
  clear hW1
  go_wp2_with (first
    | (refine wl_built rfl 32 _ rfl [] (by simp [Act.eval, Act.put]) _ builtZ ?_)
    | (refine wpList_store_row rfl 32 _ _ rfl w.heap.size (ivR.cells zeroIv).toArray rfl rfl 32 (ivR.cells zeroIv).toArray HN1.out (ivRow zeroIv) rfl (ivOk.one' zeroIv) ?_))
  exact bodyPost_ret (results_row_tmp rfl _ _ w.heap.size (ivR.cells zeroIv) _ rfl (row_reads zeroIv (setRow_heap _ HN1.out)) Try.underlying32 rfl (ivRowL zeroIv)) rfl ⟨rfl, below_row HB1.out (Nat.le_refl _) _⟩
set_option maxHeartbeats 2000000 in
theorem get_any {w : World} {v nm lm : Nat} {c : Cfg} {last : Int} {L : List Iv} (h : InvM w v nm lm c last L) (n : Int) :
    Calls Try.prog 11 #[.pointer (some ⟨v, 0, none⟩), .int .i64 n] w (GotI w (fNo L n)) := by
  have hb1 : Below w.heap.size w (w.alloc (.cells (ivR.cells zeroIv).toArray 32)) := (Below.refl _ _).alloc (Nat.le_refl _) _
  have hn1 := heap_alloc_new w (.cells (ivR.cells zeroIv).toArray 32)
  obtain ⟨W1, hW1⟩ : ∃ W1, W1 = w.alloc (.cells (ivR.cells zeroIv).toArray 32) := ⟨_, rfl⟩
  rw [← hW1] at hb1 hn1
  have c21 := (h.cel.below hb1).get (i := 21) rfl
  have HML := Lib.hid (h.ml.toF.below hb1)
  have HN1 := Lib.hid hn1
  have HB1 := Lib.hid hb1
  obtain ⟨z, hz⟩ : ∃ z, z = (fNo L n).getD zeroIv := ⟨_, rfl⟩
  obtain ⟨b, hb⟩ : ∃ b, b = (fNo L n).isSome := ⟨_, rfl⟩
  have HG := Lib.hid (show (noF L n).getD (ivR.val zeroIv) = ivR.val z from by rw [hz]; unfold noF; cases fNo L n <;> rfl)
  have HS := Lib.hid (show (noF L n).isSome = b from by rw [hb]; unfold noF; cases fNo L n <;> rfl)
  have HE := Lib.hid (show ∀ e w', (e = .returned (.tuple #[ivR.val z, .bool b]) ∧ Below w.heap.size w w') → GotI w (fNo L n) e w' from by rw [hz, hb]; intro e w' h9; exact h9)
  clear hn1 hb1 h hz hb
  go_enter Try.func11, Try.ntmps11
  go_upto_region 1 with fail
  show Code.wp _ _ _ _ (w.alloc (.cells (ivR.cells zeroIv).toArray 32))
  rw [← hW1]
  clear hW1
  go_upto_region 4 with (first
    | (refine wl_lookupOk (intK_ok Try.underlying3) rfl _ _ 62 32 rfl Try.underlying62 (z := ivR.val zeroIv) zeroInv rfl HML.out n rfl ?_; rw [HG.out, HS.out])
    | (refine wpList_store_mid rfl 32 _ _ rfl W1.heap.size 0 (ivR.cells z).toArray rfl rfl (freshR_there ivOk W1 z) (ivOk.row' z) (ivOk.one' z) ?_; show wpList _ _ _ _ _ (freshR ivR W1 z); have hx3 := freshR_range ivOk W1 z; have hb3 := freshR_below (R := ivR) W1 z; generalize freshR ivR W1 z = W3 at hx3 hb3 ⊢))
  have HN3 := Lib.hid ((hb3.block w.heap.size (Array.getElem?_eq_some_iff.1 HN1.out).1).trans HN1.out)
  have HB3 := Lib.hid (bthen' HB1.out hb3)
  clear hb3 c21
  go_wp2_with (first
    | (refine wpList_load_mid rfl 32 _ rfl W1.heap.size 0 rfl (ivR.cells z) _ hx3 Try.underlying32 rfl (ivOk.row z) ?_)
    | (refine wpList_store_row rfl 32 _ _ rfl w.heap.size (ivR.cells z).toArray rfl rfl 32 (ivR.cells zeroIv).toArray HN3.out (ivRow z) rfl (ivOk.one' z) ?_))
  exact bodyPost_ret (results_row_tmp rfl _ _ w.heap.size (ivR.cells z) _ rfl (row_reads z (setRow_heap _ HN3.out)) Try.underlying32 rfl (ivRowL z)) rfl (HE.out _ _ ⟨rfl, below_row HB3.out (Nat.le_refl _) _⟩)
theorem find_no {c : Cfg} {last : Int} {L : List Iv} (ho : InvOk c last L) (t : Int) (s : ByteArray) : fNo L (match fNm L t s with | some x => x.no | none => 0) = fNm L t s := by
  cases hf : fNm L t s with
  | none => exact fNo_none.2 fun x hx e => by have := ho.low x hx; have e2 : x.no = 0 := e; omega
  | some x => exact fNo_of ho.asc (fNm_mem hf).1
def noOf (L : List Iv) (t : Int) (s : ByteArray) : Int := match fNm L t s with | some x => x.no | none => 0
set_option maxHeartbeats 2000000 in
theorem find_any {w : World} {v nm lm : Nat} {c : Cfg} {last : Int} {L : List Iv} (h : InvM w v nm lm c last L) (ho : InvOk c last L) (t : Int) (s : ByteArray) :
    Calls Try.prog 38 #[.pointer (some ⟨v, 0, none⟩), .int .i64 t, .string s] w (GotI w (fNm L t s)) := by
  have hb1 : Below w.heap.size w (w.alloc (.cells (ivR.cells zeroIv).toArray 32)) := (Below.refl _ _).alloc (Nat.le_refl _) _
  have hn1 := heap_alloc_new w (.cells (ivR.cells zeroIv).toArray 32)
  obtain ⟨W1, hW1⟩ : ∃ W1, W1 = w.alloc (.cells (ivR.cells zeroIv).toArray 32) := ⟨_, rfl⟩
  rw [← hW1] at hb1 hn1
  have c20 := (h.cel.below hb1).get (i := 20) rfl
  have HMN := Lib.hid (h.mn.toF.below hb1)
  have HN1 := Lib.hid hn1
  have HB1 := Lib.hid hb1
  have hfn : fNo L (noOf L t s) = fNm L t s := find_no ho t s
  obtain ⟨k, hk⟩ : ∃ k, k = noOf L t s := ⟨_, rfl⟩
  rw [← hk] at hfn
  have HG := Lib.hid (show (nmF L (t, s)).getD (.int .i64 0) = .int .i64 k from by rw [hk]; unfold nmF noOf; cases fNm L t s <;> rfl)
  have KG := Lib.hid (get_any (h.below hb1) k)
  unfold GotI at KG
  rw [hfn] at KG
  obtain ⟨z, hz⟩ : ∃ z, z = (fNm L t s).getD zeroIv := ⟨_, rfl⟩
  obtain ⟨b, hb⟩ : ∃ b, b = (fNm L t s).isSome := ⟨_, rfl⟩
  rw [← hz, ← hb] at KG
  have HE := Lib.hid (show ∀ e w', (e = .returned (.tuple #[ivR.val z, .bool b]) ∧ Below w.heap.size w w') → GotI w (fNm L t s) e w' from by rw [hz, hb]; intro e w' h9; exact h9)
  clear hn1 hb1 h hz hb ho hk hfn
  go_enter Try.func38, Try.ntmps38
  go_upto_region 1 with fail
  show Code.wp _ _ _ _ (w.alloc (.cells (ivR.cells zeroIv).toArray 32))
  rw [← hW1]
  clear hW1
  go_wp2_with (first
    | (refine wl_lookup nkOk rfl _ _ 61 3 rfl Try.underlying61 (z := .int .i64 0) zeroInt rfl HMN.out (t, s) rfl ?_; rw [HG.out])
    | (go_at_call 11; refine KG.out.mono ?_; rintro e W3 ⟨rfl, hb3⟩; have HN3 := Lib.hid ((hb3.block w.heap.size (Array.getElem?_eq_some_iff.1 HN1.out).1).trans HN1.out); have HB3 := Lib.hid (bthen' HB1.out hb3); clear hb3)
    | (refine wpList_store_row rfl 32 _ _ rfl w.heap.size (ivR.cells z).toArray rfl rfl 32 (ivR.cells zeroIv).toArray HN3.out (ivRow z) rfl (ivOk.one' z) ?_))
  exact bodyPost_ret (results_row_tmp rfl _ _ w.heap.size (ivR.cells z) _ rfl (row_reads z (setRow_heap _ HN3.out)) Try.underlying32 rfl (ivRowL z)) rfl (HE.out _ _ ⟨rfl, below_row HB3.out (Nat.le_refl _) _⟩)
end Go.Proofs.Ytogajmbkjojdhaa
