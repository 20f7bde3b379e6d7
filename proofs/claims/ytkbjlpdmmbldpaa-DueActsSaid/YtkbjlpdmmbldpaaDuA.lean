/- Merged of DuKey DuKey2 DuNil DuClear DuFirst0 DuT DuAt DuGo DuGo2 DuClear2 DuSet DuSet2 DuNew DuTimer DuTail DuTail2. -/
import Derived.Test.YtkbjlpdmmbldpaaWhActs

/-! Due's keys: may, key. -/
set_option linter.unusedVariables false
set_option linter.unusedSimpArgs false
set_option maxRecDepth 100000
namespace Go.Proofs.Ytkbjlpdmmbldpaa
open Go.RowKit

def mayB (k i : Int) : Bool := decide (1 ≤ k ∧ k ≤ 4 ∧ 0 ≤ i ∧ i ≤ 1099511627776)
def keyI (k i : Int) : Int := k * 2199023255552 + i
theorem key_inj {k i k' i' : Int} (h : mayB k i = true) (h' : mayB k' i' = true) (e : keyI k i = keyI k' i') : k = k' ∧ i = i' := by
  have a := of_decide_eq_true h
  have b := of_decide_eq_true h'
  unfold keyI at e
  omega
theorem key_pos {k i : Int} (h : mayB k i = true) : 0 ≤ keyI k i := by
  have a := of_decide_eq_true h
  unfold keyI
  omega
theorem may_any (w : World) (k i : Int) : Calls Try.prog 53 #[.int .i64 k, .int .i64 i] w fun e w' => e = .returned (.bool (mayB k i)) ∧ w = w' := by
  by_cases h1 : 1 ≤ k
  · have q1 : decide (1 ≤ k) = true := by simp [h1]
    by_cases h2 : k ≤ 4
    · have q2 : decide (k ≤ 4) = true := by simp [h2]
      by_cases h3 : 0 ≤ i
      · have q3 : decide (0 ≤ i) = true := by simp [h3]
        have e0 := Lib.hid (show mayB k i = decide (i ≤ 1099511627776) from by unfold mayB; simp [h1, h2, h3])
        clear h1 h2 h3
        go_enter Try.func53, Try.ntmps53
        go_wp2_with fail
        go_ret
        exact ⟨by rw [e0.out]; rfl, by first | rfl | trivial⟩
      · have q3 : decide (0 ≤ i) = false := by simp; omega
        have e0 := Lib.hid (show mayB k i = false from by unfold mayB; simp; omega)
        clear h1 h2 h3
        go_enter Try.func53, Try.ntmps53
        go_wp2_with fail
        go_ret
        exact ⟨by rw [e0.out]; rfl, by first | rfl | trivial⟩
    · have q2 : decide (k ≤ 4) = false := by simp; omega
      have e0 := Lib.hid (show mayB k i = false from by unfold mayB; simp; omega)
      clear h1 h2
      go_enter Try.func53, Try.ntmps53
      go_wp2_with fail
      go_ret
      exact ⟨by rw [e0.out]; rfl, by first | rfl | trivial⟩
  · have q1 : decide (1 ≤ k) = false := by simp; omega
    have e0 := Lib.hid (show mayB k i = false from by unfold mayB; simp; omega)
    clear h1
    go_enter Try.func53, Try.ntmps53
    go_wp2_with fail
    go_ret
    exact ⟨by rw [e0.out]; rfl, by first | rfl | trivial⟩
end Go.Proofs.Ytkbjlpdmmbldpaa

/-! Due's keys: key. -/
set_option linter.unusedVariables false
set_option linter.unusedSimpArgs false
set_option maxRecDepth 100000
namespace Go.Proofs.Ytkbjlpdmmbldpaa
open Go.RowKit

theorem or41 {k i : Nat} (hk : k ≤ 4) (hi : i < 2199023255552) : bits BinOp.or IntKind.i64 (wrap64 ((k : Int) * 2199023255552)) (i : Int) = (k : Int) * 2199023255552 + (i : Int) := by
  have h0 : wrap64 ((k : Int) * 2199023255552) = ((k * 2199023255552 : Nat) : Int) := by unfold wrap64; omega
  rw [h0]
  have h1 : k * 2199023255552 ||| i = k * 2199023255552 + i := by
    have := Nat.shiftLeft_add_eq_or_of_lt (i := 41) (b := i) (by simpa using hi) k
    rw [Nat.shiftLeft_eq] at this
    exact this.symm
  have key : (BitVec.ofInt 64 ((k * 2199023255552 : Nat) : Int) ||| BitVec.ofInt 64 (i : Int)).toNat = k * 2199023255552 + i := by
    rw [BitVec.toNat_or, BitVec.toNat_ofInt, BitVec.toNat_ofInt, ← h1]
    congr 1 <;> omega
  show IntKind.i64.wrap ((BitVec.ofInt 64 ((k * 2199023255552 : Nat) : Int) ||| BitVec.ofInt 64 (i : Int)).toNat : Nat) = _
  rw [key, IntKind.wrap_i64]
  omega
theorem and41 (n : Int) : bits BinOp.and IntKind.i64 n 2199023255551 = n % 2199023255552 := by
  have h15 : (BitVec.ofInt 64 2199023255551).toNat = 2 ^ 41 - 1 := by decide
  have key : (BitVec.ofInt 64 n &&& BitVec.ofInt 64 2199023255551).toNat = (n % ((2 ^ 64 : Nat) : Int)).toNat % 2 ^ 41 := by
    rw [BitVec.toNat_and, BitVec.toNat_ofInt, h15, Nat.and_two_pow_sub_one_eq_mod]
  show IntKind.i64.wrap ((BitVec.ofInt 64 n &&& BitVec.ofInt 64 2199023255551).toNat : Nat) = n % 2199023255552
  rw [key, IntKind.wrap_i64]
  omega
theorem key_or {k i : Int} (h : mayB k i = true) : bits BinOp.or IntKind.i64 (wrap64 (k * 2199023255552)) i = keyI k i := by
  have a := of_decide_eq_true h
  obtain ⟨k', rfl⟩ : ∃ n : Nat, k = (n : Int) := ⟨k.toNat, by omega⟩
  obtain ⟨i', rfl⟩ : ∃ n : Nat, i = (n : Int) := ⟨i.toNat, by omega⟩
  exact or41 (by omega) (by omega)
theorem key_any (w : World) (k i : Int) (h : mayB k i = true) : Calls Try.prog 54 #[.int .i64 k, .int .i64 i] w fun e w' => e = .returned (.int .i64 (keyI k i)) ∧ w = w' := by
  have a := Lib.hid (key_or h)
  clear h
  go_enter Try.func54, Try.ntmps54
  go_wp2_with fail
  go_ret
  exact ⟨by rw [← a.out]; rfl, by first | rfl | trivial⟩
/-- What a key says. -/
def unkey (z : Int) : Int × Int := (z / 2199023255552, z % 2199023255552)
theorem unkey_key {k i : Int} (h : mayB k i = true) : unkey (keyI k i) = (k, i) := by
  have a := of_decide_eq_true h
  unfold unkey keyI
  congr 1 <;> omega
end Go.Proofs.Ytkbjlpdmmbldpaa

/-! Due: no table. -/
set_option linter.unusedVariables false
set_option linter.unusedSimpArgs false
set_option maxRecDepth 100000
namespace Go.Proofs.Ytkbjlpdmmbldpaa
open Go.RowKit

theorem dlen_nil (w : World) : Calls Try.prog 28 #[.pointer none] w fun e w' => e = .returned (.int .i64 0) ∧ w = w' := by
  go_enter Try.func28, Try.ntmps28
  go_wp2_with fail
  go_ret
  exact ⟨rfl, rfl⟩
theorem dnow_nil (w : World) : Calls Try.prog 37 #[.pointer none] w fun e w' => e = .returned (.int .u64 0) ∧ w = w' := by
  go_enter Try.func37, Try.ntmps37
  go_wp2_with fail
  go_ret
  exact ⟨rfl, rfl⟩
theorem dnext_nil (w : World) : Calls Try.prog 30 #[.pointer none] w fun e w' => e = .returned (.tuple #[.int .u64 0, .bool false]) ∧ w = w' := by
  go_enter Try.func30, Try.ntmps30
  go_wp2_with fail
  go_ret2
  exact ⟨rfl, rfl⟩
theorem dat_nil (w : World) (k i : Int) : Calls Try.prog 34 #[.pointer none, .int .i64 k, .int .i64 i] w fun e w' => e = .returned (.tuple #[.int .u64 0, .bool false]) ∧ w = w' := by
  go_enter Try.func34, Try.ntmps34
  go_wp2_with fail
  go_ret2
  exact ⟨rfl, rfl⟩
theorem dset_nil (w : World) (k i t : Int) : Calls Try.prog 27 #[.pointer none, .int .i64 k, .int .i64 i, .int .u64 t] w fun e w' => e = .returned (.int .i64 19) ∧ w = w' := by
  go_enter Try.func27, Try.ntmps27
  go_wp2_with fail
  go_ret
  exact ⟨rfl, rfl⟩
theorem dgo_nil (w : World) (t : Int) : Calls Try.prog 31 #[.pointer none, .int .u64 t] w fun e w' => e = .returned (.bool false) ∧ w = w' := by
  go_enter Try.func31, Try.ntmps31
  go_wp2_with fail
  go_ret
  exact ⟨rfl, rfl⟩
end Go.Proofs.Ytkbjlpdmmbldpaa

/-! Due: Clear, First with no table (printed by genduclear.py). -/
set_option linter.unusedVariables false
set_option linter.unusedSimpArgs false
set_option maxRecDepth 100000
namespace Go.Proofs.Ytkbjlpdmmbldpaa
open Go.RowKit

theorem dclear_nil (w : World) (k i : Int) : Calls Try.prog 39 #[.pointer none, .int .i64 k, .int .i64 i] w fun e w' => e = .returned (.bool false) ∧ Below w.heap.size w w' := by
  go_enter Try.func39, Try.ntmps39
  go_upto_region 1 with fail
  refine Mix.wp_region_mix [([0, 1, 2, 3, 4], 5), ([6, 7, 8, 9, 10, 11, 12, 13], 14), ([], 15)] [16, 17] (fun w' => ∃ x : Later w, w' = x.w) (by kernel_rfl) (by kernel_rfl) (Mix.later_drew w) ?_
  have hb5 : Below w.heap.size w w.drew := (Below.refl _ _).drew
  generalize w.drew = W5 at hb5 ⊢
  refine Mix.stages_cons ?_
  simp only [Mix.pickL, List.getElem?_cons_zero, List.getElem?_cons_succ]
  repeat (first
    | go_big_quiet_skip
    | (go_big_quiet_want; (go_big_quiet_op; go_big_quiet_on)))
  refine wpQuiet_nil ?_
  go_wp2_with (fail)
  refine Mix.onward_normal hb5 ?_
  refine Mix.stages_cons ?_
  simp only [Mix.pickL, List.getElem?_cons_zero, List.getElem?_cons_succ]
  repeat (first
    | go_big_quiet_skip
    | (go_big_quiet_want; (go_big_quiet_op; go_big_quiet_on)))
  refine wpQuiet_nil ?_
  go_wp2_with (fail)
  refine Mix.onward_normal (Below.refl W5.heap.size W5) ?_
  refine Mix.stages_cons ?_
  simp only [Mix.pickL, List.getElem?_cons_zero, List.getElem?_cons_succ]
  repeat (first
    | go_big_quiet_skip
    | (go_big_quiet_want; (go_big_quiet_op; go_big_quiet_on)))
  refine wpQuiet_nil ?_
  go_wp2_with (fail)
  refine Mix.onward_normal (Below.refl W5.heap.size W5) ?_
  refine Mix.stages_nil ?_
  simp only [Mix.pickL, List.getElem?_cons_zero, List.getElem?_cons_succ]
  repeat (first
    | go_big_quiet_skip
    | (go_big_quiet_want; (go_big_quiet_op; go_big_quiet_on)))
  refine wpQuiet_nil ?_
  go_wp2_with fail
  go_ret
  exact ⟨rfl, hb5⟩
end Go.Proofs.Ytkbjlpdmmbldpaa

/-! Due: First with no table. -/
set_option linter.unusedVariables false
set_option linter.unusedSimpArgs false
set_option maxRecDepth 100000
namespace Go.Proofs.Ytkbjlpdmmbldpaa
open Go.RowKit

theorem results_row_tmp {P : Program} {fn : Func} {p q : Tmp} {ty : TypeId} (h : fn.results = #[.cell p ty, .tmp q]) (tmps : Array Value) (w : World) (g : Nat) (cs : List Value) (d : TypeDesc)
    (hp : tmps.getD p undef = .pointer (some ⟨g, 0, none⟩)) (hg : w.rangeAt g 0 cs) (hu : P.underlying ty = some d) (hd : d.isRow = true) (hi : (P.info? ty).map (·.size) = some cs.length) :
    (results fn tmps).run P w = .ok (.tuple #[.agg cs.toArray, tmps.getD q undef]) w := by
  have hp' : tmps[p]?.getD undef = .pointer (some ⟨g, 0, none⟩) := by simpa using hp
  simp [results, h, hp', asAddr, run_loadVar_mid w g 0 ty cs d hg hu hd hi]
theorem built0 : Try.prog.built 54 [] = some #[.int .i64 0, .int .i64 0, .int .u64 0] := by kernel_rfl
def zeroTm : Tm := ⟨0, 0, 0⟩
theorem dfirst_nil (w : World) (t : Int) : Calls Try.prog 29 #[.pointer none, .int .u64 t] w fun e w' => e = .returned (.tuple #[timR.val zeroTm, .bool false]) ∧ Below w.heap.size w w' := by
  have hb1 : Below w.heap.size w (w.alloc (.cells #[.int .i64 0, .int .i64 0, .int .u64 0] 54)) := (Below.refl _ _).alloc (Nat.le_refl _) _
  have hn1 := heap_alloc_new w (.cells #[.int .i64 0, .int .i64 0, .int .u64 0] 54)
  obtain ⟨W1, hW1⟩ : ∃ W1, W1 = w.alloc (.cells #[.int .i64 0, .int .i64 0, .int .u64 0] 54) := ⟨_, rfl⟩
  rw [← hW1] at hb1 hn1
  have HN1 := Lib.hid hn1
  have HB1 := Lib.hid hb1
  clear hn1 hb1
  go_enter Try.func29, Try.ntmps29
  go_upto_region 1 with fail
  show Code.wp _ _ _ _ (w.alloc (.cells #[.int .i64 0, .int .i64 0, .int .u64 0] 54))
  rw [← hW1]
  clear hW1
  go_wp2_with (first
    | (go_at_call 30; refine (dnext_nil _).mono ?_; rintro e w' ⟨rfl, rfl⟩)
    | (refine wl_built rfl 54 _ rfl [] (by simp [Act.eval, Act.put]) _ built0 ?_)
    | (refine wpList_store_row rfl 54 _ _ rfl w.heap.size #[.int .i64 0, .int .i64 0, .int .u64 0] rfl rfl 54 #[.int .i64 0, .int .i64 0, .int .u64 0] HN1.out (timRow3 _ rfl) rfl (timOne3 _ _ _) ?_))
  exact bodyPost_ret (results_row_tmp rfl _ _ w.heap.size [.int .i64 0, .int .i64 0, .int .u64 0] _ rfl (row_reads (R := timR) zeroTm (setRow_heap _ HN1.out)) Try.underlying54 rfl (timRow3 _ rfl)) rfl ⟨rfl, below_row HB1.out (Nat.le_refl _) _⟩
end Go.Proofs.Ytkbjlpdmmbldpaa

/-! A due in memory; Len, Now, Next. -/
set_option linter.unusedVariables false
set_option linter.unusedSimpArgs false
set_option maxRecDepth 100000
namespace Go.Proofs.Ytkbjlpdmmbldpaa
open Go.RowKit

/-- A due in memory, in the blocks of T: a wheel whose numbers are keys. -/
structure DT (T : Nat → Prop) (w : World) (d now : Nat) (L : List Tm) : Prop where
  mem : ∃ (p : Nat) (T' : Nat → Prop), Cel w d [.pointer (some ⟨p, 0, none⟩)] ∧ T d ∧ ¬ T' d ∧ (∀ k, T' k → T k) ∧ WT T' w p now L
  lt : ∀ k, T k → k < w.heap.size
  k0 : ∀ x ∈ L, x.k = 0
  key : ∀ x ∈ L, ∃ k i, mayB k i = true ∧ x.id = keyI k i
namespace DT
variable {T P : Nat → Prop} {w w' : World} {d now : Nat} {L : List Tm}
theorem updP (h : DT T w d now L) (hu : UpdP P w w') (hP : ∀ k, P k → ¬ T k) : DT T w' d now L := by
  obtain ⟨⟨p, T', h1, h2, h3, h4, h5⟩, h6, h7, h8⟩ := h
  exact ⟨⟨p, T', cel_updP h1 hu (fun h9 => hP _ h9 h2) (h6 _ h2), h2, h3, h4, h5.updP hu (fun k hk h9 => hP k hk (h4 k h9))⟩, fun k hk => Nat.lt_of_lt_of_le (h6 k hk) hu.size, h7, h8⟩
theorem below (h : DT T w d now L) (hb : Below w.heap.size w w') : DT T w' d now L := h.updP (P := fun _ => False) (UpdP.ofB hb) (fun _ hk => hk.elim)
end DT
theorem dlen_any {T : Nat → Prop} {w : World} {d now : Nat} {L : List Tm} (h : DT T w d now L) (hL : L.length ≤ 1000000) :
    Calls Try.prog 28 #[.pointer (some ⟨d, 0, none⟩)] w fun e w' => e = .returned (.int .i64 (L.length : Int)) ∧ w = w' := by
  obtain ⟨p, T', h1, h2, h3, h4, h5⟩ := h.mem
  have c0 := h1.get (i := 0) rfl
  have K := Lib.hid (len_any h5 hL)
  clear h h1 h2 h3 h4 h5
  go_enter Try.func28, Try.ntmps28
  go_wp2_with (go_at_call 14; refine K.out.mono ?_; rintro e w' ⟨rfl, rfl⟩)
  go_ret
  exact ⟨rfl, by first | rfl | trivial⟩
theorem dnow_any {T : Nat → Prop} {w : World} {d now : Nat} {L : List Tm} (h : DT T w d now L) :
    Calls Try.prog 37 #[.pointer (some ⟨d, 0, none⟩)] w fun e w' => e = .returned (.int .u64 (now : Int)) ∧ w = w' := by
  obtain ⟨p, T', h1, h2, h3, h4, h5⟩ := h.mem
  have c0 := h1.get (i := 0) rfl
  have K := Lib.hid (now_T h5)
  clear h h1 h2 h3 h4 h5
  go_enter Try.func37, Try.ntmps37
  go_wp2_with (go_at_call 15; refine K.out.mono ?_; rintro e w' ⟨rfl, rfl⟩)
  go_ret
  exact ⟨rfl, by first | rfl | trivial⟩
theorem dnext_any {T : Nat → Prop} {w : World} {d now : Nat} {L : List Tm} (h : DT T w d now L) (hL : L.length ≤ 100000) (m : Nat) (b : Bool) (hq : ∀ w e w', NextP w L e w' → NextQ w m b e w') :
    Calls Try.prog 30 #[.pointer (some ⟨d, 0, none⟩)] w (NextQ w m b) := by
  obtain ⟨p, T', h1, h2, h3, h4, h5⟩ := h.mem
  have c0 := h1.get (i := 0) rfl
  have K := Lib.hid ((next_any h5 hL).mono (hq w))
  clear h h1 h2 h3 h4 h5 hq
  go_enter Try.func30, Try.ntmps30
  go_wp2_with (go_at_call 24; refine K.out.mono ?_; rintro e w' ⟨rfl, hb2⟩)
  go_ret2
  exact ⟨rfl, hb2⟩
end Go.Proofs.Ytkbjlpdmmbldpaa

/-! A due's At (printed by genduat.py). -/
set_option linter.unusedVariables false
set_option linter.unusedSimpArgs false
set_option maxRecDepth 100000
namespace Go.Proofs.Ytkbjlpdmmbldpaa
open Go.RowKit

def DAtP (w : World) (L : List Tm) (k i : Int) (e : Ending) (w' : World) : Prop := e = .returned (.tuple #[.int .u64 (tOf L (keyI k i) : Int), .bool (gotT L (keyI k i)).isSome]) ∧ Below w.heap.size w w'
theorem dat_any {T : Nat → Prop} {w : World} {d now : Nat} {L : List Tm} (h : DT T w d now L) (k i : Int) (hm : mayB k i = true) :
    Calls Try.prog 34 #[.pointer (some ⟨d, 0, none⟩), .int .i64 k, .int .i64 i] w (DAtP w L k i) := by
  obtain ⟨p, T', h1, h2, h3, h4, h5⟩ := h.mem
  have c0 := h1.get (i := 0) rfl
  have KM := Lib.hid (may_any w k i)
  have KK := Lib.hid (fun W => key_any W k i hm)
  have KA := Lib.hid (fun W (hb : Below w.heap.size w W) => at_T (h5.below hb) (keyI k i))
  rw [hm] at KM
  clear h h1 h2 h3 h4 h5 hm
  go_enter Try.func34, Try.ntmps34
  go_upto_region 3 with (go_at_call 53; refine KM.out.mono ?_; rintro e w' ⟨rfl, rfl⟩)
  have d0 := fun (z : Later w) => z.cell c0
  refine Mix.wp_region_mix [([0, 1, 2, 3, 4, 5], 6), ([], 7)] [8, 9, 10, 11] (fun w' => ∃ x : Later w, w' = x.w) (by kernel_rfl) (by kernel_rfl) (Mix.later_drew w) ?_
  have hb5 : Below w.heap.size w w.drew := (Below.refl _ _).drew
  generalize w.drew = W5 at hb5 ⊢
  refine Mix.stages_cons ?_
  simp only [Mix.pickL, List.getElem?_cons_zero, List.getElem?_cons_succ]
  repeat (first
    | go_big_quiet_skip
    | (go_big_quiet_want; (go_big_quiet_op; go_big_quiet_on)))
  refine wpQuiet_nil ?_
  go_wp2_with (go_at_call 54; refine (KK.out _).mono ?_; rintro e w' ⟨rfl, rfl⟩)
  refine Mix.onward_normal hb5 ?_
  refine Mix.stages_cons ?_
  simp only [Mix.pickL, List.getElem?_cons_zero, List.getElem?_cons_succ]
  repeat (first
    | go_big_quiet_skip
    | (go_big_quiet_want; (go_big_quiet_op; go_big_quiet_on)))
  refine wpQuiet_nil ?_
  go_wp2_with (go_at_call 23; refine (KA.out _ hb5).mono ?_; rintro e W6 ⟨rfl, hb6⟩)
  refine Mix.onward_normal hb6 ?_
  refine Mix.stages_nil ?_
  simp only [Mix.pickL, List.getElem?_cons_zero, List.getElem?_cons_succ]
  repeat (first
    | go_big_quiet_skip
    | (go_big_quiet_want; (go_big_quiet_op; go_big_quiet_on)))
  refine wpQuiet_nil ?_
  clear d0
  go_wp2_with fail
  go_ret2
  exact ⟨rfl, bthen' hb5 hb6⟩
end Go.Proofs.Ytkbjlpdmmbldpaa

/-! A due's Go. -/
set_option linter.unusedVariables false
set_option linter.unusedSimpArgs false
set_option maxRecDepth 100000
namespace Go.Proofs.Ytkbjlpdmmbldpaa
open Go.RowKit

structure NextIs (L : List Tm) (m : Nat) (b : Bool) : Prop where
  q : ∀ w e w', NextP w L e w' → NextQ w m b e w'
  no : b = false → L = []
  yes : b = true → (∃ x ∈ L, x.t = m) ∧ ∀ x ∈ L, m ≤ x.t
theorem next_is (L : List Tm) : ∃ (m : Nat) (b : Bool), NextIs L m b := by
  by_cases h : L = []
  · subst h
    refine ⟨0, false, fun w e w' hp => ?_, fun _ => rfl, by simp⟩
    rcases hp with ⟨hb, ⟨-, h1⟩ | ⟨m, ⟨x, hx, -⟩, -⟩⟩
    · exact ⟨h1, hb⟩
    · cases hx
  · obtain ⟨m, ⟨x, hx, hm⟩, h2⟩ := min_ex L h
    refine ⟨m, true, fun w e w' hp => ?_, by simp, fun _ => ⟨⟨x, hx, hm⟩, h2⟩⟩
    rcases hp with ⟨hb, ⟨h1, -⟩ | ⟨m2, ⟨y, hy, hm2⟩, h3, h4⟩⟩
    · exact absurd h1 h
    · have a1 := h2 y hy
      have a2 := h3 x hx
      obtain rfl : m2 = m := by omega
      exact ⟨h4, hb⟩
theorem DT.turn {T T2 : Nat → Prop} {w w' : World} {d now now2 : Nat} {L L2 : List Tm} {p : Nat} {T' : Nat → Prop} (h : DT T w d now L) (h1 : Cel w d [.pointer (some ⟨p, 0, none⟩)]) (h3 : ¬ T' d) (h4 : ∀ k, T' k → T k) (hu : UpdP T' w w') (ho : WT T2 w' p now2 L2) (hT2 : ∀ k, T2 k → Gr T' w w' k) (hL2 : ∀ x ∈ L2, x ∈ L) :
    UpdP T w w' ∧ DT (Gr T w w') w' d now2 L2 := by
  obtain ⟨⟨-, -, -, h2, -⟩, h6, h7, h8⟩ := h
  have hs := hu.size
  have hd := h6 d h2
  refine ⟨⟨hu.os, hu.tape, hu.output, hu.size, fun k hk hn => hu.block k hk (fun h9 => hn (h4 k h9))⟩, ⟨p, T2, cel_updP h1 hu h3 hd, .inl h2, fun h9 => ?_, fun k hk => ?_, ho⟩, fun k hk => ?_, fun x hx => h7 x (hL2 x hx), fun x hx => h8 x (hL2 x hx)⟩
  · rcases hT2 d h9 with h9 | h9
    · exact h3 h9
    · omega
  · rcases hT2 k hk with h9 | h9
    · exact .inl (h4 k h9)
    · exact .inr h9
  · rcases hk with hk | hk
    · have := h6 k hk; omega
    · exact hk.2
end Go.Proofs.Ytkbjlpdmmbldpaa

/-! A due's Go. -/
set_option linter.unusedVariables false
set_option linter.unusedSimpArgs false
set_option maxRecDepth 100000
namespace Go.Proofs.Ytkbjlpdmmbldpaa
open Go.RowKit

def DGoP (T : Nat → Prop) (w : World) (d now : Nat) (L : List Tm) (to2 m : Nat) (b : Bool) (e : Ending) (w' : World) : Prop :=
  ((b = true ∧ m ≤ to2) ∧ e = .returned (.bool false) ∧ Below w.heap.size w w') ∨ (¬ (b = true ∧ m ≤ to2) ∧ e = .returned (.bool true) ∧ UpdP T w w' ∧ DT (Gr T w w') w' d (max now to2) (restT L to2))
theorem dgo_any {T : Nat → Prop} {w : World} {d now : Nat} {L : List Tm} (h : DT T w d now L) (to2 : Nat) (hto : to2 < 18446744073709551616) (hL : L.length ≤ 40000) (m : Nat) (b : Bool) (hn : NextIs L m b) :
    Calls Try.prog 31 #[.pointer (some ⟨d, 0, none⟩), .int .u64 (to2 : Int)] w (DGoP T w d now L to2 m b) := by
  have KN := Lib.hid (dnext_any h (by omega) m b hn.q)
  have H := Lib.hid h
  obtain ⟨p, T', h1, h2, h3, h4, h5⟩ := h.mem
  have HC := Lib.hid h1
  have H3 := Lib.hid h3
  have H4 := Lib.hid h4
  have KT := Lib.hid (fun W (hb : Below w.heap.size w W) => turn_any (h5.below hb) H.out.k0 to2 hto hL)
  clear h h1 h2 h3 h4 h5 hn hto
  cases b with
  | false =>
    go_enter Try.func31, Try.ntmps31
    go_wp2_with (first
      | (go_at_call 12; refine (KT.out _ hb2).mono ?_; rintro e W3 ⟨ov, out, rfl, hu, ⟨T2, hw2, hT2, -⟩, -, -⟩)
      | (go_at_call 30; refine KN.out.mono ?_; rintro e W2 ⟨rfl, hb2⟩; have c0 := (HC.out.below hb2).get (i := 0) rfl))
    go_ret
    obtain ⟨g1, g2⟩ := (H.out.below hb2).turn (HC.out.below hb2) H3.out H4.out hu hw2 hT2 (fun x hx => (List.mem_filter.1 hx).1)
    have s1 := hb2.size
    refine .inr ⟨by simp, rfl, (UpdP.ofB hb2).trans ⟨g1.os, g1.tape, g1.output, g1.size, fun k hk hn => g1.block k hk (fun h9 => hn (.inl h9))⟩, ?_⟩
    obtain ⟨⟨p', T3, a1, a2, a3, a4, a5⟩, a6, a7, a8⟩ := g2
    have s2 := g1.size
    refine ⟨⟨p', T3, a1, ?_, a3, fun k hk => ?_, a5⟩, fun k hk => ?_, a7, a8⟩
    · rcases a2 with h9 | h9
      · exact .inl h9
      · exact .inr ⟨by omega, h9.2⟩
    · rcases a4 k hk with h9 | h9
      · exact .inl h9
      · exact .inr ⟨by omega, h9.2⟩
    · rcases hk with h9 | h9
      · exact a6 k (.inl h9)
      · exact h9.2
  | true =>
    by_cases hm : m ≤ to2
    · have q1 : decide ((m : Int) ≤ (to2 : Int)) = true := by simp; omega
      have q2 : decide (m ≤ to2) = true := by simp; omega
      have HM := Lib.hid hm
      clear hm
      go_enter Try.func31, Try.ntmps31
      go_wp2_with (go_at_call 30; refine KN.out.mono ?_; rintro e W2 ⟨rfl, hb2⟩)
      go_ret
      exact .inl ⟨⟨rfl, HM.out⟩, rfl, hb2⟩
    · have q1 : decide ((m : Int) ≤ (to2 : Int)) = false := by simp; omega
      have q2 : decide (m ≤ to2) = false := by simp; omega
      have HM := Lib.hid hm
      clear hm
      go_enter Try.func31, Try.ntmps31
      go_wp2_with (first
        | (go_at_call 12; refine (KT.out _ hb2).mono ?_; rintro e W3 ⟨ov, out, rfl, hu, ⟨T2, hw2, hT2, -⟩, -, -⟩)
        | (go_at_call 30; refine KN.out.mono ?_; rintro e W2 ⟨rfl, hb2⟩; have c0 := (HC.out.below hb2).get (i := 0) rfl))
      go_ret
      obtain ⟨g1, g2⟩ := (H.out.below hb2).turn (HC.out.below hb2) H3.out H4.out hu hw2 hT2 (fun x hx => (List.mem_filter.1 hx).1)
      have s1 := hb2.size
      refine .inr ⟨fun h9 => HM.out h9.2, rfl, (UpdP.ofB hb2).trans ⟨g1.os, g1.tape, g1.output, g1.size, fun k hk hn => g1.block k hk (fun h9 => hn (.inl h9))⟩, ?_⟩
      obtain ⟨⟨p', T3, a1, a2, a3, a4, a5⟩, a6, a7, a8⟩ := g2
      have s2 := g1.size
      refine ⟨⟨p', T3, a1, ?_, a3, fun k hk => ?_, a5⟩, fun k hk => ?_, a7, a8⟩
      · rcases a2 with h9 | h9
        · exact .inl h9
        · exact .inr ⟨by omega, h9.2⟩
      · rcases a4 k hk with h9 | h9
        · exact .inl h9
        · exact .inr ⟨by omega, h9.2⟩
      · rcases hk with h9 | h9
        · exact a6 k (.inl h9)
        · exact h9.2
end Go.Proofs.Ytkbjlpdmmbldpaa

/-! A due's Clear (printed by genduclear2.py). -/
set_option linter.unusedVariables false
set_option linter.unusedSimpArgs false
set_option maxRecDepth 100000
namespace Go.Proofs.Ytkbjlpdmmbldpaa
open Go.RowKit

theorem DT.then' {T : Nat → Prop} {w w2 w' : World} {d now2 : Nat} {L2 : List Tm} (hb2 : Below w.heap.size w w2) (g1 : UpdP T w2 w') (g2 : DT (Gr T w2 w') w' d now2 L2) : UpdP T w w' ∧ DT (Gr T w w') w' d now2 L2 := by
  have s1 := hb2.size
  have s2 := g1.size
  refine ⟨(UpdP.ofB hb2).trans ⟨g1.os, g1.tape, g1.output, g1.size, fun k hk hn => g1.block k hk (fun h9 => hn (.inl h9))⟩, ?_⟩
  obtain ⟨⟨p', T3, a1, a2, a3, a4, a5⟩, a6, a7, a8⟩ := g2
  refine ⟨⟨p', T3, a1, ?_, a3, fun k hk => ?_, a5⟩, fun k hk => ?_, a7, a8⟩
  · rcases a2 with h9 | h9
    · exact .inl h9
    · exact .inr ⟨by omega, h9.2⟩
  · rcases a4 k hk with h9 | h9
    · exact .inl h9
    · exact .inr ⟨by omega, h9.2⟩
  · rcases hk with h9 | h9
    · exact a6 k (.inl h9)
    · exact h9.2
def DClearP (T : Nat → Prop) (w : World) (d now : Nat) (L : List Tm) (k i : Int) (e : Ending) (w' : World) : Prop :=
  e = .returned (.bool (gotT L (keyI k i)).isSome) ∧ UpdP T w w' ∧ DT (Gr T w w') w' d now (butT L (keyI k i))
theorem dclear_any {T : Nat → Prop} {w : World} {d now : Nat} {L : List Tm} (h : DT T w d now L) (k i : Int) (hm : mayB k i = true) (hL : L.length ≤ 40000) :
    Calls Try.prog 39 #[.pointer (some ⟨d, 0, none⟩), .int .i64 k, .int .i64 i] w (DClearP T w d now L k i) := by
  have H := Lib.hid h
  obtain ⟨p, T', h1, h2, h3, h4, h5⟩ := h.mem
  have HC := Lib.hid h1
  have H3 := Lib.hid h3
  have H4 := Lib.hid h4
  have KM := Lib.hid (fun W => may_any W k i)
  have KK := Lib.hid (fun W => key_any W k i hm)
  have KD := Lib.hid (fun W (hb : Below w.heap.size w W) => drop_any (h5.below hb) (keyI k i) (by omega))
  rw [hm] at KM
  clear h h1 h2 h3 h4 h5 hm
  go_enter Try.func39, Try.ntmps39
  go_upto_region 1 with fail
  have hne : Nonempty (Mix.InS (fun x => x.cell? ⟨d, 0, none⟩ = some (.pointer (some ⟨p, 0, none⟩)))) := ⟨⟨w, HC.out.get (i := 0) rfl⟩⟩
  have d0 := fun (z : Mix.InS (fun x => x.cell? ⟨d, 0, none⟩ = some (.pointer (some ⟨p, 0, none⟩)))) => z.h
  refine Mix.wp_region_mix [([0, 1, 2, 3, 4], 5), ([6, 7, 8, 9, 10, 11, 12, 13], 14), ([], 15)] [16, 17] (fun w' => ∃ x : Mix.InS (fun x => x.cell? ⟨d, 0, none⟩ = some (.pointer (some ⟨p, 0, none⟩))), w' = x.w) (by kernel_rfl) (by kernel_rfl) (Mix.inS_mk ((HC.out.below ((Below.refl _ _).drew)).get (i := 0) rfl)) ?_
  have hb5 : Below w.heap.size w w.drew := (Below.refl _ _).drew
  generalize w.drew = W5 at hb5 ⊢
  have c5 := (HC.out.below hb5).get (i := 0) rfl
  refine Mix.stages_cons ?_
  simp only [Mix.pickL, List.getElem?_cons_zero, List.getElem?_cons_succ]
  repeat (first
    | go_big_quiet_skip
    | (go_big_quiet_want; (go_big_quiet_op; go_big_quiet_on)))
  refine wpQuiet_nil ?_
  go_wp2_with (go_at_call 53; refine (KM.out _).mono ?_; rintro e w' ⟨rfl, rfl⟩)
  refine Mix.onward_in c5 ?_
  refine Mix.stages_cons ?_
  simp only [Mix.pickL, List.getElem?_cons_zero, List.getElem?_cons_succ]
  repeat (first
    | go_big_quiet_skip
    | (go_big_quiet_want; (go_big_quiet_op; go_big_quiet_on)))
  refine wpQuiet_nil ?_
  go_wp2_with (go_at_call 54; refine (KK.out _).mono ?_; rintro e w' ⟨rfl, rfl⟩)
  refine Mix.onward_in c5 ?_
  refine Mix.stages_cons ?_
  simp only [Mix.pickL, List.getElem?_cons_zero, List.getElem?_cons_succ]
  refine wpQuiet_nil ?_
  go_wp2_with (go_at_call 19; refine (KD.out _ hb5).mono ?_; rintro e W6 ⟨rfl, hu, hw⟩)
  have HU := Lib.hid hu
  have HW := Lib.hid hw
  obtain ⟨g1, g2⟩ := (H.out.below hb5).turn (HC.out.below hb5) H3.out H4.out hu hw (fun k hk => hk) (fun x hx => (List.mem_filter.1 hx).1)
  have c6 := (cel_updP (HC.out.below hb5) hu H3.out ((H.out.below hb5).lt d (H.out.mem.elim fun _ h9 => h9.elim fun _ h9 => h9.2.1))).get (i := 0) rfl
  refine Mix.onward_in c6 ?_
  refine Mix.stages_nil ?_
  simp only [Mix.pickL, List.getElem?_cons_zero, List.getElem?_cons_succ]
  repeat (first
    | go_big_quiet_skip
    | (go_big_quiet_want; (go_big_quiet_op; go_big_quiet_on)))
  refine wpQuiet_nil ?_
  clear d0 hne
  have G := Lib.hid (DT.then' hb5 g1 g2)
  clear g1 g2 hu hw c5 c6
  go_wp2_with fail
  go_ret
  exact ⟨rfl, G.out.1, G.out.2⟩
end Go.Proofs.Ytkbjlpdmmbldpaa

/-! A due's Set (printed by genduset.py). -/
set_option linter.unusedVariables false
set_option linter.unusedSimpArgs false
set_option maxRecDepth 100000
namespace Go.Proofs.Ytkbjlpdmmbldpaa
open Go.RowKit

theorem DT.wider {T T2 : Nat → Prop} {w : World} {d now : Nat} {L : List Tm} (h : DT T w d now L) (hT : ∀ k, T k → T2 k) (hlt : ∀ k, T2 k → k < w.heap.size) : DT T2 w d now L := by
  obtain ⟨⟨p, T', h1, h2, h3, h4, h5⟩, h6, h7, h8⟩ := h
  exact ⟨⟨p, T', h1, hT d h2, h3, fun k hk => hT k (h4 k hk), h5⟩, hlt, h7, h8⟩
theorem DT.two {T : Nat → Prop} {w w1 w2 : World} {d now : Nat} {L : List Tm} (u1 : UpdP T w w1) (u2 : UpdP (Gr T w w1) w1 w2) (h : DT (Gr (Gr T w w1) w1 w2) w2 d now L) (hlt : ∀ k, T k → k < w.heap.size) : UpdP T w w2 ∧ DT (Gr T w w2) w2 d now L := by
  have s1 := u1.size
  have s2 := u2.size
  refine ⟨u1.trans u2, h.wider (fun k hk => Gr.sub s1 s2 hk) (fun k hk => ?_)⟩
  rcases hk with hk | hk
  · have := hlt k hk; omega
  · exact hk.2
def setT (L : List Tm) (key : Int) (t : Nat) : List Tm := butT L key ++ [⟨0, key, t⟩]
theorem got_but_same (L : List Tm) (i : Int) : gotT (butT L i) i = none := by rw [got_butT, if_pos rfl]
theorem put_but {L : List Tm} {key : Int} (h : 0 ≤ key) (t : Nat) : putE (butT L key) key = 0 ∧ putT (butT L key) key t = setT L key t := by
  have e : putE (butT L key) key = 0 := by
    unfold putE
    rw [if_neg (by omega), got_but_same]
    rfl
  exact ⟨e, by unfold putT setT; rw [e, if_pos rfl]⟩
def DSetP (T : Nat → Prop) (w : World) (d now : Nat) (L : List Tm) (key : Int) (t : Nat) (e : Ending) (w' : World) : Prop :=
  e = .returned (.int .i64 0) ∧ UpdP T w w' ∧ DT (Gr T w w') w' d now (setT L key t)
theorem DT.put {T T2 : Nat → Prop} {w w' : World} {d now : Nat} {L : List Tm} {p k i : Int} {t : Nat} {q : Nat} {T' : Nat → Prop} (h : DT T w d now L) (hm : mayB k i = true) (h1 : Cel w d [.pointer (some ⟨q, 0, none⟩)]) (h3 : ¬ T' d) (h4 : ∀ k, T' k → T k) (hu : UpdP T' w w') (ho : WT (Gr T' w w') w' q now (L ++ [⟨0, keyI k i, t⟩])) :
    UpdP T w w' ∧ DT (Gr T w w') w' d now (L ++ [⟨0, keyI k i, t⟩]) := by
  obtain ⟨⟨-, -, -, h2, -⟩, h6, h7, h8⟩ := h
  have hs := hu.size
  have hd := h6 d h2
  refine ⟨⟨hu.os, hu.tape, hu.output, hu.size, fun k hk hn => hu.block k hk (fun h9 => hn (h4 k h9))⟩, ⟨q, _, cel_updP h1 hu h3 hd, .inl h2, fun h9 => ?_, fun k hk => ?_, ho⟩, fun k hk => ?_, fun x hx => ?_, fun x hx => ?_⟩
  · rcases h9 with h9 | h9
    · exact h3 h9
    · omega
  · rcases hk with h9 | h9
    · exact .inl (h4 k h9)
    · exact .inr h9
  · rcases hk with hk | hk
    · have := h6 k hk; omega
    · exact hk.2
  · rcases List.mem_append.1 hx with hx | hx
    · exact h7 x hx
    · simp at hx; subst hx; rfl
  · rcases List.mem_append.1 hx with hx | hx
    · exact h8 x hx
    · simp at hx; subst hx; exact ⟨k, i, hm, rfl⟩
end Go.Proofs.Ytkbjlpdmmbldpaa

/-! A due's Set, the walk (printed by genduset2.py). -/
set_option linter.unusedVariables false
set_option linter.unusedSimpArgs false
set_option maxRecDepth 100000
namespace Go.Proofs.Ytkbjlpdmmbldpaa
open Go.RowKit

set_option maxHeartbeats 2000000 in
theorem dset_any {T : Nat → Prop} {w : World} {d now : Nat} {L : List Tm} (h : DT T w d now L) (k i : Int) (t : Nat) (hm : mayB k i = true) (ht : t < 18446744073709551616) (hL : L.length ≤ 40000) :
    Calls Try.prog 27 #[.pointer (some ⟨d, 0, none⟩), .int .i64 k, .int .i64 i, .int .u64 (t : Int)] w (DSetP T w d now L (keyI k i) t) := by
  have H := Lib.hid h
  obtain ⟨p, T', h1, h2, h3, h4, h5⟩ := h.mem
  have HC := Lib.hid h1
  have H3 := Lib.hid h3
  have H4 := Lib.hid h4
  have KM := Lib.hid (fun W => may_any W k i)
  have KK := Lib.hid (fun W => key_any W k i hm)
  have KD := Lib.hid (fun W (hb : Below w.heap.size w W) => drop_any (h5.below hb) (keyI k i) (by omega))
  have HM := Lib.hid hm
  rw [hm] at KM
  have HB2 := Lib.hid (show (butT L (keyI k i)).length ≤ 40000 from Nat.le_trans (but_len L _) hL)
  have PB := Lib.hid (put_but (L := L) (key_pos hm) t)
  clear h h1 h2 h3 h4 h5 hm
  go_enter Try.func27, Try.ntmps27
  go_upto_region 5 with (go_at_call 53; refine (KM.out _).mono ?_; rintro e w' ⟨rfl, rfl⟩)
  have hne : Nonempty (Mix.InS (fun x => x.cell? ⟨d, 0, none⟩ = some (.pointer (some ⟨p, 0, none⟩)))) := ⟨⟨w, HC.out.get (i := 0) rfl⟩⟩
  have d0 := fun (z : Mix.InS (fun x => x.cell? ⟨d, 0, none⟩ = some (.pointer (some ⟨p, 0, none⟩)))) => z.h
  refine Mix.wp_region_mix [([0, 1, 2, 3, 4, 5], 6), ([], 7)] [] (fun w' => ∃ x : Mix.InS (fun x => x.cell? ⟨d, 0, none⟩ = some (.pointer (some ⟨p, 0, none⟩))), w' = x.w) (by kernel_rfl) (by kernel_rfl) (Mix.inS_mk ((HC.out.below ((Below.refl _ _).drew)).get (i := 0) rfl)) ?_
  have hb5 : Below w.heap.size w w.drew := (Below.refl _ _).drew
  generalize w.drew = W5 at hb5 ⊢
  have c5 := (HC.out.below hb5).get (i := 0) rfl
  refine Mix.stages_cons ?_
  simp only [Mix.pickL, List.getElem?_cons_zero, List.getElem?_cons_succ]
  repeat (first
    | go_big_quiet_skip
    | (go_big_quiet_want; (go_big_quiet_op; go_big_quiet_on)))
  refine wpQuiet_nil ?_
  go_wp2_with (go_at_call 54; refine (KK.out _).mono ?_; rintro e w' ⟨rfl, rfl⟩)
  refine Mix.onward_in c5 ?_
  refine Mix.stages_cons ?_
  simp only [Mix.pickL, List.getElem?_cons_zero, List.getElem?_cons_succ]
  refine wpQuiet_nil ?_
  go_wp2_with (go_at_call 19; refine (KD.out _ hb5).mono ?_; rintro e W6 ⟨rfl, hu, hw⟩)
  obtain ⟨g1, g2⟩ := (H.out.below hb5).turn (HC.out.below hb5) H3.out H4.out hu hw (fun k hk => hk) (fun x hx => (List.mem_filter.1 hx).1)
  have c6 := (cel_updP (HC.out.below hb5) hu H3.out ((H.out.below hb5).lt d (H.out.mem.elim fun _ h9 => h9.elim fun _ h9 => h9.2.1))).get (i := 0) rfl
  refine Mix.onward_in c6 ?_
  refine Mix.stages_nil ?_
  simp only [Mix.pickL, List.getElem?_cons_zero, List.getElem?_cons_succ]
  repeat (first
    | go_big_quiet_skip
    | (go_big_quiet_want; (go_big_quiet_op; go_big_quiet_on)))
  refine wpQuiet_nil ?_
  clear d0 hne
  have G := Lib.hid (DT.then' hb5 g1 g2)
  clear g1 g2 hu hw c5 c6 HC H3 H4 KD hb5
  obtain ⟨q, T6, j1, j2, j3, j4, j5⟩ := G.out.2.mem
  have JC := Lib.hid j1
  have J3 := Lib.hid j3
  have J4 := Lib.hid j4
  have KP := Lib.hid (fun W (hb : Below W6.heap.size W6 W) => put_any (j5.below hb) (keyI k i) t ht (Nat.le_trans HB2.out (by omega)))
  clear j1 j2 j3 j4 j5
  go_upto_region 6 with fail
  (try simp only [Act.put])
  have hne : Nonempty (Mix.InS (fun x => x.cell? ⟨d, 0, none⟩ = some (.pointer (some ⟨q, 0, none⟩)))) := ⟨⟨W6, JC.out.get (i := 0) rfl⟩⟩
  have d0 := fun (z : Mix.InS (fun x => x.cell? ⟨d, 0, none⟩ = some (.pointer (some ⟨q, 0, none⟩)))) => z.h
  refine Mix.wp_region_mix [([0, 1, 2, 3, 4, 5, 7], 6), ([], 8)] [9] (fun w' => ∃ x : Mix.InS (fun x => x.cell? ⟨d, 0, none⟩ = some (.pointer (some ⟨q, 0, none⟩))), w' = x.w) (by kernel_rfl) (by kernel_rfl) (Mix.inS_mk ((JC.out.below ((Below.refl _ _).drew)).get (i := 0) rfl)) ?_
  have hb7 : Below W6.heap.size W6 W6.drew := (Below.refl _ _).drew
  generalize W6.drew = W7 at hb7 ⊢
  have c5 := (JC.out.below hb7).get (i := 0) rfl
  refine Mix.stages_cons ?_
  simp only [Mix.pickL, List.getElem?_cons_zero, List.getElem?_cons_succ]
  repeat (first
    | go_big_quiet_skip
    | (go_big_quiet_want; (go_big_quiet_op; go_big_quiet_on)))
  refine wpQuiet_nil ?_
  go_wp2_with (go_at_call 54; refine (KK.out _).mono ?_; rintro e w' ⟨rfl, rfl⟩)
  refine Mix.onward_in c5 ?_
  refine Mix.stages_cons ?_
  simp only [Mix.pickL, List.getElem?_cons_zero, List.getElem?_cons_succ]
  refine wpQuiet_nil ?_
  go_wp2_with (go_at_call 17; refine (KP.out _ hb7).mono ?_; rintro e W8 ⟨rfl, hu, hw⟩)
  rw [PB.out.2] at hw
  obtain ⟨g1, g2⟩ := DT.put (T2 := T) (p := 0) (G.out.2.below hb7) HM.out (JC.out.below hb7) J3.out J4.out hu hw
  have c6 := (cel_updP (JC.out.below hb7) hu J3.out ((G.out.2.below hb7).lt d (G.out.2.mem.elim fun _ h9 => h9.elim fun _ h9 => h9.2.1))).get (i := 0) rfl
  refine Mix.onward_in c6 ?_
  refine Mix.stages_nil ?_
  simp only [Mix.pickL, List.getElem?_cons_zero, List.getElem?_cons_succ]
  repeat (first
    | go_big_quiet_skip
    | (go_big_quiet_want; (go_big_quiet_op; go_big_quiet_on)))
  refine wpQuiet_nil ?_
  clear d0 hne
  have F := Lib.hid (DT.then' hb7 g1 g2)
  have F2 := Lib.hid (DT.two G.out.1 F.out.1 F.out.2 H.out.lt)
  clear g1 g2 hu hw c5 c6
  go_wp2_with fail
  go_ret
  exact ⟨by rw [← PB.out.1]; rfl, F2.out.1, F2.out.2⟩
end Go.Proofs.Ytkbjlpdmmbldpaa

/-! A due that is made. -/
set_option linter.unusedVariables false
set_option linter.unusedSimpArgs false
set_option maxRecDepth 100000
namespace Go.Proofs.Ytkbjlpdmmbldpaa
open Go.RowKit

def DNewP (w : World) (now : Nat) (e : Ending) (w' : World) : Prop := ∃ d, e = .returned (.pointer (some ⟨d, 0, none⟩)) ∧ Below w.heap.size w w' ∧ DT (fun k => w.heap.size ≤ k ∧ k < w'.heap.size) w' d now []
theorem dnew_any (w : World) (now : Nat) (hnow : now < 18446744073709551616) : Calls Try.prog 26 #[.int .u64 (now : Int)] w (DNewP w now) := by
  have KN := Lib.hid (new_any w now hnow)
  clear hnow
  go_enter Try.func26, Try.ntmps26
  go_wp2_with (go_at_call 10; refine KN.out.mono ?_; rintro e W1 ⟨p, rfl, hb1, hT1⟩)
  go_ret
  have hb2 : Below W1.heap.size W1 (W1.alloc (.cells #[.pointer (some ⟨p, 0, none⟩)] 92)) := (Below.refl _ _).alloc (Nat.le_refl _) _
  have s1 := hb1.size
  have s2 : (W1.alloc (.cells #[.pointer (some ⟨p, 0, none⟩)] 92)).heap.size = W1.heap.size + 1 := by simp
  refine ⟨W1.heap.size, rfl, bthen' hb1 hb2, ⟨⟨p, _, Cel.new W1 92 [.pointer (some ⟨p, 0, none⟩)], ⟨s1, by omega⟩, fun h9 => by omega, fun k hk => ⟨hk.1, by omega⟩, hT1.below hb2⟩, fun k hk => hk.2, by simp, by simp⟩⟩
end Go.Proofs.Ytkbjlpdmmbldpaa

/-! Due's timer: what a key says. -/
set_option linter.unusedVariables false
set_option linter.unusedSimpArgs false
set_option maxRecDepth 100000
namespace Go.Proofs.Ytkbjlpdmmbldpaa
open Go.RowKit

def saidT (x : Tm) : Tm := ⟨x.id / 2199023255552, x.id % 2199023255552, x.t⟩
theorem builtT (a b : Int) (t : Int) : Try.prog.built 54 [(0, .int .i64 a), (1, .int .i64 b), (2, .int .u64 t)] = some #[.int .i64 a, .int .i64 b, .int .u64 t] := by kernel_rfl
theorem timer_any (w : World) (x : Tm) : Calls Try.prog 55 #[timR.val x] w fun e w' => e = .returned (timR.val (saidT x)) ∧ Below w.heap.size w w' := by
  have hb1 : Below w.heap.size w (w.alloc (.cells (timR.cells x).toArray 54)) := (Below.refl _ _).alloc (Nat.le_refl _) _
  have hn1 := heap_alloc_new w (.cells (timR.cells x).toArray 54)
  have c1 : ((w.alloc (.cells (timR.cells x).toArray 54)).alloc (.cells #[.int .i64 0, .int .i64 0, .int .u64 0] 54)).cell? ⟨w.heap.size, 1, none⟩ = some (.int .i64 x.id) :=
    below_cell ((Below.refl _ _).alloc (Nat.le_refl _) _) (cell_of_row _ _ _ _ _ _ hn1)
  have c2 : ((w.alloc (.cells (timR.cells x).toArray 54)).alloc (.cells #[.int .i64 0, .int .i64 0, .int .u64 0] 54)).cell? ⟨w.heap.size, 2, none⟩ = some (.int .u64 (x.t : Int)) :=
    below_cell ((Below.refl _ _).alloc (Nat.le_refl _) _) (cell_of_row _ _ _ _ _ _ hn1)
  have hb2 : Below w.heap.size w ((w.alloc (.cells (timR.cells x).toArray 54)).alloc (.cells #[.int .i64 0, .int .i64 0, .int .u64 0] 54)) := hb1.alloc hb1.size _
  have hn2 := heap_alloc_new (w.alloc (.cells (timR.cells x).toArray 54)) (.cells #[.int .i64 0, .int .i64 0, .int .u64 0] 54)
  have hs : (w.alloc (.cells (timR.cells x).toArray 54)).heap.size = w.heap.size + 1 := by simp
  rw [hs] at hn2
  obtain ⟨W1, hW1⟩ : ∃ W1, W1 = (w.alloc (.cells (timR.cells x).toArray 54)).alloc (.cells #[.int .i64 0, .int .i64 0, .int .u64 0] 54) := ⟨_, rfl⟩
  rw [← hW1] at c1 c2 hb2 hn2
  have HN := Lib.hid hn2
  have HB := Lib.hid hb2
  have A := Lib.hid (and41 x.id)
  clear hb1 hn1 hb2 hn2 hs
  go_enter Try.func55, Try.ntmps55
  go_upto_region 1 with fail
  show Code.wp _ _ _ _ ((w.alloc (.cells (timR.cells x).toArray 54)).alloc (.cells #[.int .i64 0, .int .i64 0, .int .u64 0] 54))
  rw [← hW1]
  clear hW1
  go_wp2_with (first
    | (refine wl_built rfl 54 _ rfl [(0, .int .i64 (x.id / 2199023255552)), (1, .int .i64 (x.id % 2199023255552)), (2, .int .u64 (x.t : Int))] (by simp [Act.eval, Act.put, A.out]) _ (builtT _ _ _) ?_)
    | (refine wpList_store_row rfl 54 _ _ rfl (w.heap.size + 1) #[.int .i64 (x.id / 2199023255552), .int .i64 (x.id % 2199023255552), .int .u64 (x.t : Int)] rfl rfl 54 #[.int .i64 0, .int .i64 0, .int .u64 0] HN.out (timRow3 _ rfl) rfl (timOne3 _ _ _) ?_))
  exact bodyPost_ret (results_cell_mid rfl _ _ (w.heap.size + 1) [.int .i64 (x.id / 2199023255552), .int .i64 (x.id % 2199023255552), .int .u64 (x.t : Int)] _ rfl (row_reads (R := timR) (saidT x) (setRow_heap _ HN.out)) Try.underlying54 rfl (timRow3 _ rfl)) rfl ⟨rfl, below_row HB.out (Nat.le_succ _) _⟩
end Go.Proofs.Ytkbjlpdmmbldpaa

/-! What is left of a list of one's own behind its first one; a due with such a list beside it. -/
set_option linter.unusedVariables false
set_option linter.unusedSimpArgs false
set_option maxRecDepth 100000
namespace Go.Proofs.Ytkbjlpdmmbldpaa
open Go.RowKit

/-- A due, and a list beside it that it does not touch. -/
structure DL (T : Nat → Prop) (w wr : World) (d now : Nat) (L : List Tm) (ov : Value) (out : List Tm) : Prop where
  upd : UpdP T w wr
  tlt : ∀ k, T k → k < w.heap.size
  dt : ∃ T2 : Nat → Prop, DT T2 wr d now L ∧ (∀ k, T2 k → Gr T w wr k) ∧ ∀ k, ov.ownBlock = some k → ¬ T2 k
  own : Owns timR w.heap.size wr ov out
theorem DL.below {T : Nat → Prop} {w wr w' : World} {d now : Nat} {L : List Tm} {ov : Value} {out : List Tm} (h : DL T w wr d now L ov out) (hb : Below wr.heap.size wr w') : DL T w w' d now L ov out := by
  obtain ⟨h1, h0, ⟨T2, h2, h3, h4⟩, h5⟩ := h
  have := hb.size
  exact ⟨wt_gr h1 (UpdP.ofB hb), h0, ⟨T2, h2.below hb, fun k hk => by rcases h3 k hk with h9 | h9; exact .inl h9; exact .inr ⟨h9.1, by omega⟩, h4⟩, h5.below hb⟩
/-- .. and the due puts one more. -/
theorem DL.more {T T2 : Nat → Prop} {w wr w' : World} {d now : Nat} {L L2 : List Tm} {ov : Value} {out : List Tm} (h : DL T w wr d now L ov out) (h3 : ∀ k, T2 k → Gr T w wr k) (h4 : ∀ k, ov.ownBlock = some k → ¬ T2 k) (hu : UpdP T2 wr w') (hd : DT (Gr T2 wr w') w' d now L2) : DL T w w' d now L2 ov out := by
  obtain ⟨h1, h0, -, h5⟩ := h
  have s1 := h1.size
  have s2 := hu.size
  refine ⟨h1.trans ⟨hu.os, hu.tape, hu.output, hu.size, fun k hk hn => hu.block k hk (fun h9 => hn (h3 k h9))⟩, h0, ⟨_, hd, fun k hk => ?_, fun k hk h9 => ?_⟩, owns_keepsR h5 (fun k hk => hu.block k (h5.lt k hk).2 (h4 k hk))⟩
  · rcases hk with hk | hk
    · rcases h3 k hk with h9 | h9
      · exact .inl h9
      · exact .inr ⟨h9.1, by omega⟩
    · exact .inr ⟨by omega, hk.2⟩
  · rcases h9 with h9 | h9
    · exact h4 k hk h9
    · have := (h5.lt k hk).2; omega
theorem DL.fin {T : Nat → Prop} {w wr : World} {d now : Nat} {L : List Tm} {ov : Value} {out : List Tm} (h : DL T w wr d now L ov out) : UpdP T w wr ∧ DT (Gr T w wr) wr d now L := by
  obtain ⟨h1, h0, ⟨T2, h2, h3, h4⟩, h5⟩ := h
  have s1 := h1.size
  refine ⟨h1, h2.wider h3 (fun k hk => ?_)⟩
  rcases hk with hk | hk
  · have := h0 k hk; omega
  · exact hk.2
end Go.Proofs.Ytkbjlpdmmbldpaa

/-! The rest of a list of one's own; put of a key that is not there. -/
set_option linter.unusedVariables false
set_option linter.unusedSimpArgs false
set_option maxRecDepth 100000
namespace Go.Proofs.Ytkbjlpdmmbldpaa
open Go.RowKit

theorem reads_tailT {w : World} {g n cap : Nat} {M : List Tm} (h : Reads timR w (.slice (some ⟨g, 0, none⟩) (n + 1) cap) M) (hM : M.length = n + 1) (hc : n + 1 ≤ cap) :
    Reads timR w (.slice (if cap = 1 then some ⟨g, 0, none⟩ else some ⟨g, 3, none⟩) n (cap - 1)) (M.drop 1) := by
  by_cases h0 : n = 0
  · subst h0
    exact .inl ⟨List.drop_eq_nil_of_le (by omega), _, _, rfl⟩
  · rw [if_neg (by omega)]
    rcases h with ⟨h1, _⟩ | ⟨b, off, cap', hv, hr⟩
    · rw [h1] at hM; simp at hM
    · simp only [Value.slice.injEq, Option.some.injEq, Addr.mk.injEq, and_true] at hv
      obtain ⟨⟨rfl, rfl⟩, hl, rfl⟩ := hv
      refine .inr ⟨g, 3, cap - 1, by rw [List.length_drop, hM]; simp, fun i x hx => ?_⟩
      rw [List.getElem?_drop] at hx
      have := hr _ _ hx
      rw [show 0 + (1 + i) * timR.n = 3 + i * timR.n from by show 0 + (1 + i) * 3 = 3 + i * 3; omega] at this
      exact this
theorem putT_new {L : List Tm} {key : Int} {t : Nat} (h : gotT L key = none) (hk : 0 ≤ key) : putE L key = 0 ∧ putT L key t = L ++ [⟨0, key, t⟩] := by
  have e : putE L key = 0 := by
    unfold putE
    rw [if_neg (by omega), h]
    rfl
  exact ⟨e, by unfold putT; rw [e, if_pos rfl]⟩
/-- What a First leaves: what is later, then what was turned up with the first one. -/
theorem tail_new {L : List Tm} {m : Nat} {out : List Tm} (hn : (idsT L).Nodup) (h : TurnOk L m out) {j : Nat} {y : Tm} (hy : (out.drop 1)[j]? = some y) : gotT (restT L m ++ (out.drop 1).take j) y.id = none := by
  have hyo : y ∈ out := List.mem_of_mem_drop (List.mem_of_getElem? hy)
  have hyL := (h.mem y).1 hyo
  refine gotT_none.2 fun x hx e => ?_
  rcases List.mem_append.1 hx with hx | hx
  · have h1 := List.mem_filter.1 hx
    obtain rfl := same_id hn h1.1 hyL.1 e
    have := of_decide_eq_true h1.2
    omega
  · have hxo : x ∈ out := List.mem_of_mem_drop (List.mem_of_mem_take hx)
    obtain rfl := same_id hn ((h.mem x).1 hxo).1 hyL.1 e
    have hs : (out.drop 1).Pairwise ltT := h.srt.sublist (List.drop_sublist _ _)
    obtain ⟨i, hi, he⟩ := List.mem_take_iff_getElem.1 hx
    obtain ⟨hj, hje⟩ := List.getElem?_eq_some_iff.1 hy
    have := (List.pairwise_iff_getElem.1 hs) i j (by omega) hj (by omega)
    rw [he, hje] at this
    unfold ltT at this
    omega
end Go.Proofs.Ytkbjlpdmmbldpaa

