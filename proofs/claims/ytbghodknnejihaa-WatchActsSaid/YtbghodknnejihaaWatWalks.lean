/- The contracts of watch's functions: Index, Contains, Has, New, May. -/
import Derived.Test.YtbghodknnejihaaWatLaw
import Derived.Test.YtbghodknnejihaaTextName
set_option linter.unusedVariables false
namespace Go.Proofs.Ytbghodknnejihaa
open Go.RowKit

theorem quiet_row {C : World → Prop} {K : Act → Prop} {a : Act} {o : Oper} {α : Type} {R : Rec α} (k : R.Ok) (x : Operand) (ho : o.op = .load R.ty x) (d : TypeDesc) (hu : Try.prog.underlying R.ty = some d) (hd : d.isRow = true)
    (b off : Nat) (hx : a.eval x = .pointer (some ⟨b, off, none⟩)) (y : α) (hr : ∀ w, C w → w.rangeAt b off (R.cells y))
    (h : K (a.put o.dst (.agg (R.cells y).toArray))) : o.quiet Try.prog a C K :=
  quiet_load_mid R.ty x ho b off hx (R.cells y) d hr hu hd (k.row y) h

theorem rangeLater {w : World} {b o : Nat} {cs : List Value} (h : w.rangeAt b o cs) : ∀ w', (∃ x : Later w, w' = x.w) → w'.rangeAt b o cs := by
  rintro w' ⟨z, rfl⟩
  exact below_range z.h h

theorem mem_take_succ {α : Type} {L : List α} {k : Nat} {x y : α} (h : L[k]? = some y) : x ∈ L.take (k + 1) ↔ x ∈ L.take k ∨ x = y := by
  rw [← take_snoc h]; simp

theorem range_arr {α : Type} {R : Rec α} {w : World} {b : Nat} {t : TypeId} (y : α) (h : w.heap[b]? = some (.cells (R.cells y).toArray t (0, 0))) : w.rangeAt b 0 (R.cells y) := fun j v hv => by
  rw [cell_of_row w b (0 + j) _ t (0, 0) h]
  simpa using hv

set_option maxRecDepth 100000 in
set_option maxHeartbeats 1000000 in
theorem index_any (w : World) (v : Value) (L : List Wat) (hv : Reads watR w v L) (x : Wat) (hbig : L.length ≤ 1000000) :
    Calls Try.prog 28 #[v, .agg (watR.cells x).toArray] w fun e w' => ∃ i : Int, e = .returned (.int .i64 i) ∧ Below w.heap.size w w' ∧ (decide (0 ≤ i) = decide (x ∈ L)) := by
  obtain ⟨av, capv, rfl⟩ := hv.form
  have hX := range_arr x (heap_alloc_new w (.cells (watR.cells x).toArray 28))
  have hW : Below w.heap.size w (w.alloc (.cells (watR.cells x).toArray 28)) := (Below.refl _ _).alloc (Nat.le_refl _) _
  have HV := Lib.hid (hv.below hW)
  clear hv
  go_enter Try.func28, Try.ntmps28
  go_wp2_with fail
  generalize w.alloc (.cells (watR.cells x).toArray 28) = W0 at hX hW HV ⊢
  go_loopw [8] (fun i wr => ∃ k : Nat, k ≤ L.length ∧ i = .int .i64 k ∧ Below W0.heap.size W0 wr ∧ x ∉ L.take k) (fun i _ => L.length - (intOf i).toNat)
  case atStart => exact ⟨0, by omega, rfl, Below.refl _ _, by simp⟩
  case round =>
    obtain ⟨k, hk, rfl, hb, hno⟩ := hrel
    have HN := Lib.hid hno
    clear hno
    by_cases hlt : k < L.length
    · obtain ⟨y, hy⟩ : ∃ y, L[k]? = some y := ⟨_, List.getElem?_eq_getElem hlt⟩
      obtain ⟨b, off, rfl, hr⟩ := (HV.out.below hb).at hy
      have HY := Lib.hid hy
      have R1 := Lib.hid (rangeLater hr)
      have R2 := Lib.hid (rangeLater (below_range hb hX))
      clear hy hr
      have hsame := fun w => wat_eq 9998 x y w
      have hguard := watGuard
      go_wp2_with fail
      refine wp_region_later (by kernel_rfl) (by kernel_rfl) (Below.refl _ _) ?_
      repeat (first
        | go_big_quiet_skip
        | (go_big_quiet_want; first
          | (refine quiet_row watOk _ rfl _ Try.underlying28 rfl b (off + k * watR.n) rfl y R1.out ?_; simp only [Act.put, List.setIfInBounds_toArray, List.set_cons_succ, List.set_cons_zero]; go_big_quiet_on)
          | (refine quiet_row watOk _ rfl _ Try.underlying28 rfl w.heap.size 0 rfl x R2.out ?_; simp only [Act.put, List.setIfInBounds_toArray, List.set_cons_succ, List.set_cons_zero]; go_big_quiet_on)
          | (go_big_quiet_op; go_big_quiet_on)))
      refine wpQuiet_nil ?_
      rintro ⟨W2, hb2⟩
      dsimp only
      clear hsame hguard R1 R2
      by_cases hxy : x = y
      · have hxyb : decide (x = y) = true := decide_eq_true hxy
        have HM := Lib.hid (show x ∈ L from hxy ▸ List.mem_of_getElem? HY.out)
        clear hxy HY HN
        rw [hxyb]
        go_wp2_with fail
        go_ret
        exact ⟨_, rfl, bthen' (bthen' hW hb) hb2, by rw [decide_eq_true HM.out]; simp⟩
      · have hxyb : decide (x = y) = false := decide_eq_false hxy
        have HM := Lib.hid (show x ∉ L.take (k + 1) from by rw [mem_take_succ HY.out]; exact fun h => h.elim HN.out hxy)
        clear hxy HY HN
        rw [hxyb]
        go_wp2_with fail
        go_roundw
        case rel => exact ⟨k + 1, by omega, by go_num, bthen' hb hb2, HM.out⟩
        case measure => simp [intOf]; omega
    · obtain rfl : k = L.length := by omega
      have HM := Lib.hid (show x ∉ L from by have := HN.out; rwa [List.take_length] at this)
      clear HN
      go_wp2_with fail
      go_ret
      exact ⟨_, rfl, bthen' hW hb, by rw [decide_eq_false HM.out]; rfl⟩

set_option maxRecDepth 100000 in
set_option maxHeartbeats 1000000 in
theorem has_wat (w : World) (v : Value) (L : List Wat) (hv : Reads watR w v L) (x : Wat) (hbig : L.length ≤ 1000000) :
    Calls Try.prog 19 #[v, .agg (watR.cells x).toArray] w fun e w' => e = .returned (.bool (decide (x ∈ L))) ∧ Below w.heap.size w w' := by
  obtain ⟨av, capv, rfl⟩ := hv.form
  have hX := range_arr x (heap_alloc_new w (.cells (watR.cells x).toArray 28))
  have hW : Below w.heap.size w (w.alloc (.cells (watR.cells x).toArray 28)) := (Below.refl _ _).alloc (Nat.le_refl _) _
  have HV := Lib.hid (hv.below hW)
  clear hv
  go_enter Try.func19, Try.ntmps19
  go_wp2_with fail
  generalize w.alloc (.cells (watR.cells x).toArray 28) = W0 at hX hW HV ⊢
  go_loopw [5] (fun i wr => ∃ k : Nat, k ≤ L.length ∧ i = .int .i64 k ∧ Below W0.heap.size W0 wr ∧ x ∉ L.take k) (fun i _ => L.length - (intOf i).toNat)
  case atStart => exact ⟨0, by omega, rfl, Below.refl _ _, by simp⟩
  case round =>
    obtain ⟨k, hk, rfl, hb, hno⟩ := hrel
    have HN := Lib.hid hno
    clear hno
    by_cases hlt : k < L.length
    · obtain ⟨y, hy⟩ : ∃ y, L[k]? = some y := ⟨_, List.getElem?_eq_getElem hlt⟩
      obtain ⟨b, off, rfl, hr⟩ := (HV.out.below hb).at hy
      have HY := Lib.hid hy
      have R1 := Lib.hid (rangeLater hr)
      have R2 := Lib.hid (rangeLater (below_range hb hX))
      clear hy hr
      have hsame := fun w => wat_eq 9998 y x w
      have hguard := watGuard
      go_wp2_with fail
      refine wp_region_later (by kernel_rfl) (by kernel_rfl) (Below.refl _ _) ?_
      repeat (first
        | go_big_quiet_skip
        | (go_big_quiet_want; first
          | (refine quiet_row watOk _ rfl _ Try.underlying28 rfl b (off + k * watR.n) rfl y R1.out ?_; simp only [Act.put, List.setIfInBounds_toArray, List.set_cons_succ, List.set_cons_zero]; go_big_quiet_on)
          | (refine quiet_row watOk _ rfl _ Try.underlying28 rfl w.heap.size 0 rfl x R2.out ?_; simp only [Act.put, List.setIfInBounds_toArray, List.set_cons_succ, List.set_cons_zero]; go_big_quiet_on)
          | (go_big_quiet_op; go_big_quiet_on)))
      refine wpQuiet_nil ?_
      rintro ⟨W2, hb2⟩
      dsimp only
      clear hsame hguard R1 R2
      by_cases hxy : x = y
      · have hxyb : decide (y = x) = true := decide_eq_true hxy.symm
        have HM := Lib.hid (show x ∈ L from hxy ▸ List.mem_of_getElem? HY.out)
        clear hxy HY HN
        rw [hxyb]
        go_wp2_with fail
        go_ret
        exact ⟨ret_bool (decide_eq_true HM.out).symm, bthen' (bthen' hW hb) hb2⟩
      · have hxyb : decide (y = x) = false := decide_eq_false (fun e => hxy e.symm)
        have HM := Lib.hid (show x ∉ L.take (k + 1) from by rw [mem_take_succ HY.out]; exact fun h => h.elim HN.out hxy)
        clear hxy HY HN
        rw [hxyb]
        go_wp2_with fail
        go_roundw
        case rel => exact ⟨k + 1, by omega, by go_num, bthen' hb hb2, HM.out⟩
        case measure => simp [intOf]; omega
    · obtain rfl : k = L.length := by omega
      have HM := Lib.hid (show x ∉ L from by have := HN.out; rwa [List.take_length] at this)
      clear HN
      go_wp2_with fail
      go_ret
      exact ⟨ret_bool (decide_eq_false HM.out).symm, bthen' hW hb⟩

theorem contains_any (w : World) (v : Value) (L : List Wat) (hv : Reads watR w v L) (x : Wat) (hbig : L.length ≤ 1000000) :
    Calls Try.prog 21 #[v, .agg (watR.cells x).toArray] w fun e w' => e = .returned (.bool (decide (x ∈ L))) ∧ Below w.heap.size w w' := by
  have hX := range_arr x (heap_alloc_new w (.cells (watR.cells x).toArray 28))
  have hW : Below w.heap.size w (w.alloc (.cells (watR.cells x).toArray 28)) := (Below.refl _ _).alloc (Nat.le_refl _) _
  have HV := Lib.hid (hv.below hW)
  clear hv
  go_enter Try.func21, Try.ntmps21
  go_wp2_with (first
    | (refine wpList_load_mid rfl 28 _ rfl w.heap.size 0 rfl (watR.cells x) _ hX Try.underlying28 rfl (watOk.row x) ?_)
    | (go_at_call 28; refine (index_any _ v L HV.out x hbig).mono ?_; rintro e W1 ⟨i, rfl, hb1, hi⟩; have HI := Lib.hid hi; clear hi))
  go_ret
  exact ⟨ret_bool HI.out, bthen' hW hb1⟩

/-! ### the desk -/
/-- A desk in memory: its block, its room, its slice, who waits. -/
structure DeskAt (B : Nat) (w : World) (p : Nat) (room : Int) (v : Value) (L : List Wat) : Prop where
  low : B ≤ p
  c0 : w.cell? ⟨p, 0, none⟩ = some (.int .i64 room)
  c1 : w.cell? ⟨p, 1, none⟩ = some v
  f1 : w.frozen? ⟨p, 1, none⟩ = false
  own : Owns watR B w v L
  ne : v.ownBlock ≠ some p
def deskF (p : Nat) (v : Value) : List Nat := p :: v.ownBlock.toList
theorem deskF_mem {p : Nat} {v : Value} {i : Nat} : i ∈ deskF p v ↔ i = p ∨ v.ownBlock = some i := by
  unfold deskF
  cases h : v.ownBlock <;> simp [eq_comm]
namespace DeskAt
variable {B : Nat} {w w' : World} {p : Nat} {room : Int} {v : Value} {L : List Wat}
theorem lt (h : DeskAt B w p room v L) : ∀ i ∈ deskF p v, B ≤ i ∧ i < w.heap.size := by
  intro i hi
  rcases deskF_mem.1 hi with rfl | hi
  · exact ⟨h.low, World.block_lt_of_cell? w _ h.c0⟩
  · exact h.own.lt i hi
theorem upd {F : List Nat} (h : DeskAt B w p room v L) (hb : Upd F w w') (hF : ∀ i ∈ deskF p v, i ∉ F) : DeskAt B w' p room v L where
  low := h.low
  c0 := hb.cell (hF p (deskF_mem.2 (.inl rfl))) h.c0
  c1 := hb.cell (hF p (deskF_mem.2 (.inl rfl))) h.c1
  f1 := (hb.frozen (hF p (deskF_mem.2 (.inl rfl))) h.c1).trans h.f1
  own := h.own.upd hb (fun k hk => hF k (deskF_mem.2 (.inr hk)))
  ne := h.ne
theorem below (h : DeskAt B w p room v L) (hb : Below w.heap.size w w') : DeskAt B w' p room v L := h.upd (Upd.ofBelow [] hb) (by simp)
end DeskAt

theorem new_none (w : World) (room : Int) (h : room < 0) : Calls Try.prog 5 #[.int .i64 room] w fun e w' => e = .returned (.pointer none) ∧ w = w' := by
  go_enter Try.func5, Try.ntmps5
  go_wp2_with fail
  go_ret
  exact ⟨rfl, rfl⟩
theorem new_any (w : World) (room : Int) (h : 0 ≤ room) : Calls Try.prog 5 #[.int .i64 room] w fun e w' => ∃ p, e = .returned (.pointer (some ⟨p, 0, none⟩)) ∧ Below w.heap.size w w' ∧ DeskAt w.heap.size w' p room (.slice none 0 0) [] := by
  go_enter Try.func5, Try.ntmps5
  go_wp2_with fail
  go_ret
  exact ⟨_, rfl, (Below.refl _ _).alloc (Nat.le_refl _) _, ⟨Nat.le_refl _, by simp, by simp, by simp, Owns.nil _ _ _, by simp [Value.ownBlock]⟩⟩

theorem may_none (w : World) (x : Wat) : Calls Try.prog 9 #[.pointer none, .string x.name, .int .i64 x.op] w fun e w' => e = .returned (.int .i64 19) ∧ Below w.heap.size w w' := by
  go_enter Try.func9, Try.ntmps9
  go_wp2_with fail
  go_ret
  exact ⟨rfl, (Below.refl _ _).alloc (Nat.le_refl _) _⟩

set_option maxRecDepth 100000 in
set_option maxHeartbeats 2000000 in
theorem may_any (w : World) (B p : Nat) (room : Int) (v : Value) (L : List Wat) (h : DeskAt B w p room v L) (x : Wat) (hs : x.name.size ≤ 9223372036854775807) (hbig : L.length ≤ 1000000) :
    Calls Try.prog 9 #[.pointer (some ⟨p, 0, none⟩), .string x.name, .int .i64 x.op] w fun e w' => e = .returned (.int .i64 (mayv room L (nameB x.name.data.toList) x)) ∧ Below w.heap.size w w' := by
  have hX := range_arr x (heap_alloc_new w (.cells (watR.cells x).toArray 28))
  have hW : Below w.heap.size w (w.alloc (.cells (watR.cells x).toArray 28)) := (Below.refl _ _).alloc (Nat.le_refl _) _
  have hD := h.below hW
  clear h
  replace hX : (w.alloc (.cells #[.string x.name, .int .i64 x.op] 28)).rangeAt w.heap.size 0 (watR.cells x) := hX
  replace hW : Below w.heap.size w (w.alloc (.cells #[.string x.name, .int .i64 x.op] 28)) := hW
  replace hD : DeskAt B (w.alloc (.cells #[.string x.name, .int .i64 x.op] 28)) p room v L := hD
  cases hn : nameB x.name.data.toList with
  | false =>
    have hm := Lib.hid (show mayv room L false x = 5 from rfl)
    go_enter Try.func9, Try.ntmps9
    go_wp2_with (go_at_call 20; refine (name_any _ _ hs).mono ?_; rintro e W1 ⟨rfl, hb1⟩)
    go_ret
    exact ⟨ret_int hm.out.symm, bthen' hW hb1⟩
  | true =>
    by_cases hop : x.op < 1
    · have hm := Lib.hid (show mayv room L true x = 1 from by unfold mayv; rw [if_neg (by simp), if_pos hop])
      go_enter Try.func9, Try.ntmps9
      go_wp2_with (go_at_call 20; refine (name_any _ _ hs).mono ?_; rintro e W1 ⟨rfl, hb1⟩)
      go_ret
      exact ⟨ret_int hm.out.symm, bthen' hW hb1⟩
    · go_enter Try.func9, Try.ntmps9
      go_wp2_with (go_at_call 20; refine (name_any _ _ hs).mono ?_; rintro e W1 ⟨rfl, hb1⟩)
      have hD1 := hD.below hb1
      obtain ⟨av, capv, rfl⟩ := hD1.own.form
      have HV := Lib.hid (hD1.own.lts watOk)
      have R2 := Lib.hid (rangeLater (below_range hb1 hX))
      have d1 := fun (z : Later W1) => z.cell hD1.c1
      refine wp_region_later (by kernel_rfl) (by kernel_rfl) (Below.refl _ _) ?_
      repeat (first
        | go_big_quiet_skip
        | (go_big_quiet_want; first
          | (refine quiet_row watOk _ rfl _ Try.underlying28 rfl w.heap.size 0 rfl x R2.out ?_; simp only [Act.put, List.setIfInBounds_toArray, List.set_cons_succ, List.set_cons_zero]; go_big_quiet_on)
          | (go_big_quiet_op; first | go_big_quiet_on | go_big_quiet_call ((go_at_call 21; exact Calls.later (contains_any _ _ _ (HV.out.below (Later.h _)) _ hbig))))))
      refine wpQuiet_nil ?_
      rintro ⟨W2, hb2⟩
      dsimp only
      clear d1 R2 HV
      have hD2 := hD1.below hb2
      by_cases hmem : x ∈ L
      · have hm := Lib.hid (show mayv room L true x = 8 from by unfold mayv; rw [if_neg (by simp), if_neg (by omega), if_pos hmem])
        have hmb : decide (x ∈ L) = true := decide_eq_true hmem
        clear hmem
        rw [hmb]
        go_wp2_with fail
        go_ret
        exact ⟨ret_int hm.out.symm, bthen' (bthen' hW hb1) hb2⟩
      · have HM := Lib.hid hmem
        have hmb : decide (x ∈ L) = false := decide_eq_false hmem
        clear hmem
        rw [hmb]
        have d0 := fun (z : Later W2) => z.cell hD2.c0
        have d1 := fun (z : Later W2) => z.cell hD2.c1
        go_wp2_with fail
        refine wp_region_later (by kernel_rfl) (by kernel_rfl) (Below.refl _ _) ?_
        repeat (first
          | go_big_quiet_skip
          | (go_big_quiet_want; (go_big_quiet_op; go_big_quiet_on)))
        refine wpQuiet_nil ?_
        rintro ⟨W3, hb3⟩
        dsimp only
        clear d0 d1
        by_cases hrm : room ≤ (L.length : Int)
        · have hm := Lib.hid (show mayv room L true x = 9 from by unfold mayv; rw [if_neg (by simp), if_neg (by omega), if_neg HM.out, if_pos hrm])
          go_wp2_with fail
          go_ret
          exact ⟨ret_int hm.out.symm, bthen' (bthen' (bthen' hW hb1) hb2) hb3⟩
        · have hm := Lib.hid (show mayv room L true x = 0 from by unfold mayv; rw [if_neg (by simp), if_neg (by omega), if_neg HM.out, if_neg hrm])
          go_wp2_with fail
          go_ret
          exact ⟨ret_int hm.out.symm, bthen' (bthen' (bthen' hW hb1) hb2) hb3⟩

end Go.Proofs.Ytbghodknnejihaa
