/- The contracts of conf's functions: spans, limits, tenants; the reference's. -/
import Derived.Test.YtogajmbkjojdhaaConfLaw
import Derived.BigGuardPart
set_option linter.unusedVariables false
set_option maxRecDepth 100000
namespace Go.Proofs.Ytogajmbkjojdhaa
open Go.RowKit

theorem range_arr {α : Type} {R : Rec α} {w : World} {b : Nat} {t : TypeId} (y : α) (h : w.heap[b]? = some (.cells (R.cells y).toArray t (0, 0))) : w.rangeAt b 0 (R.cells y) := fun j v hv => by
  rw [cell_of_row w b (0 + j) _ t (0, 0) h]
  simpa using hv
theorem three_cells {w : World} {b o : Nat} {x y z : Value} (h : w.rangeAt b o [x, y, z]) : w.cell? ⟨b, o, none⟩ = some x ∧ w.cell? ⟨b, o + 1, none⟩ = some y ∧ w.cell? ⟨b, o + 2, none⟩ = some z :=
  ⟨by simpa using h 0 _ rfl, by simpa using h 1 _ rfl, by simpa using h 2 _ rfl⟩

theorem in_any (w : World) (n a b : Int) : Calls Try.prog 54 #[.int .i64 n, .int .i64 a, .int .i64 b] w fun e w' => e = .returned (.bool (inB n a b)) ∧ w = w' := by
  by_cases h1 : a ≤ n
  · by_cases h2 : n ≤ b
    · have hv := Lib.hid (show inB n a b = true from inB_true.2 ⟨h1, h2⟩)
      go_enter Try.func54, Try.ntmps54
      go_wp2_with fail
      go_ret
      exact ⟨ret_bool (by rw [hv.out]), rfl⟩
    · have hv := Lib.hid (show inB n a b = false from inB_false.2 (fun h => h2 h.2))
      go_enter Try.func54, Try.ntmps54
      go_wp2_with fail
      go_ret
      exact ⟨ret_bool (by rw [hv.out]), rfl⟩
  · have hv := Lib.hid (show inB n a b = false from inB_false.2 (fun h => h1 h.1))
    go_enter Try.func54, Try.ntmps54
    go_wp2_with fail
    go_ret
    exact ⟨ret_bool (by rw [hv.out]), rfl⟩

theorem ok_any (w : World) (s : Sp) : Calls Try.prog 49 #[.agg (spanR.cells s).toArray] w fun e w' => e = .returned (.bool s.ok) ∧ Below w.heap.size w w' := by
  have hx := range_arr (R := spanR) s (heap_alloc_new w (.cells (spanR.cells s).toArray 85))
  obtain ⟨c0, c1, c2⟩ := three_cells hx
  by_cases h1 : s.lo ≤ s.n
  · by_cases h2 : s.n ≤ s.hi
    · have hv := Lib.hid (show s.ok = true from inB_true.2 ⟨h1, h2⟩)
      go_enter Try.func49, Try.ntmps49
      go_wp2_with fail
      go_ret
      exact ⟨ret_bool (by rw [hv.out]), (Below.refl _ _).alloc (Nat.le_refl _) _⟩
    · have hv := Lib.hid (show s.ok = false from inB_false.2 (fun h => h2 h.2))
      go_enter Try.func49, Try.ntmps49
      go_wp2_with fail
      go_ret
      exact ⟨ret_bool (by rw [hv.out]), (Below.refl _ _).alloc (Nat.le_refl _) _⟩
  · have hv := Lib.hid (show s.ok = false from inB_false.2 (fun h => h1 h.1))
    go_enter Try.func49, Try.ntmps49
    go_wp2_with fail
    go_ret
    exact ⟨ret_bool (by rw [hv.out]), (Below.refl _ _).alloc (Nat.le_refl _) _⟩

theorem check1_any (w : World) (s : Sp) : Calls Try.prog 48 #[.agg (spanR.cells s).toArray] w fun e w' => e = .returned (.bool (!s.ok)) ∧ Below w.heap.size w w' := by
  have hx := range_arr (R := spanR) s (heap_alloc_new w (.cells (spanR.cells s).toArray 85))
  have hb : Below w.heap.size w (w.alloc (.cells (spanR.cells s).toArray 85)) := (Below.refl _ _).alloc (Nat.le_refl _) _
  go_enter Try.func48, Try.ntmps48
  go_wp2_with (first
    | (refine wpList_load_mid rfl 85 _ rfl w.heap.size 0 rfl (spanR.cells s) _ hx Try.underlying85 rfl (spanOk.row s) ?_)
    | (go_at_call 49; refine (ok_any _ s).mono ?_; rintro e W1 ⟨rfl, hb1⟩))
  go_ret
  exact ⟨rfl, bthen' hb hb1⟩

set_option maxRecDepth 100000 in
set_option maxHeartbeats 1000000 in
theorem indexSpan_any (w : World) (v : Value) (L : List Sp) (hv : Reads spanR w v L) (hbig : L.length ≤ 1000000) :
    Calls Try.prog 61 #[v, .func (.func 48) #[] #[]] w fun e w' => ∃ i : Int, e = .returned (.int .i64 i) ∧ Below w.heap.size w w' ∧ (decide (0 ≤ i) = !L.all Sp.ok) := by
  obtain ⟨av, capv, rfl⟩ := hv.form
  have HV := Lib.hid hv
  clear hv
  go_enter Try.func61, Try.ntmps61
  go_wp2_with fail
  go_loopw [8] (fun i wr => ∃ k : Nat, k ≤ L.length ∧ i = .int .i64 k ∧ Below w.heap.size w wr ∧ (L.take k).all Sp.ok = true) (fun i _ => L.length - (intOf i).toNat)
  case atStart => exact ⟨0, by omega, rfl, Below.refl _ _, by simp⟩
  case round =>
    obtain ⟨k, hk, rfl, hb, hno⟩ := hrel
    have HN := Lib.hid hno
    clear hno
    by_cases hlt : k < L.length
    · obtain ⟨y, hy⟩ : ∃ y, L[k]? = some y := ⟨_, List.getElem?_eq_getElem hlt⟩
      obtain ⟨b, off, rfl, hr⟩ := (HV.out.below hb).at hy
      have HY := Lib.hid hy
      clear hy
      cases ho : y.ok with
      | true =>
        have HM := Lib.hid (show (L.take (k + 1)).all Sp.ok = true from by rw [← take_snoc HY.out, List.all_append, HN.out]; simp [ho])
        have hob : (!y.ok) = false := by rw [ho]; rfl
        clear HY HN
        go_wp2_with (first
          | (refine wpList_load_mid rfl 85 _ rfl b (off + k * spanR.n) rfl (spanR.cells y) _ hr Try.underlying85 rfl (spanOk.row y) ?_)
          | (go_at_call 48; refine (check1_any _ y).mono ?_; rintro e W2 ⟨rfl, hb2⟩; rw [hob]))
        go_roundw
        case rel => exact ⟨k + 1, by omega, by go_num, bthen' hb hb2, HM.out⟩
        case measure => simp [intOf]; omega
      | false =>
        have HM := Lib.hid (show L.all Sp.ok = false from by
          cases h : L.all Sp.ok with
          | false => rfl
          | true => rw [List.all_eq_true] at h; rw [h y (List.mem_of_getElem? HY.out)] at ho; cases ho)
        have hob : (!y.ok) = true := by rw [ho]; rfl
        clear HY HN
        go_wp2_with (first
          | (refine wpList_load_mid rfl 85 _ rfl b (off + k * spanR.n) rfl (spanR.cells y) _ hr Try.underlying85 rfl (spanOk.row y) ?_)
          | (go_at_call 48; refine (check1_any _ y).mono ?_; rintro e W2 ⟨rfl, hb2⟩; rw [hob]))
        go_ret
        exact ⟨_, rfl, bthen' hb hb2, by rw [HM.out]; simp⟩
    · obtain rfl : k = L.length := by omega
      have HM := Lib.hid (show L.all Sp.ok = true from by have := HN.out; rwa [List.take_length] at this)
      clear HN
      go_wp2_with fail
      go_ret
      exact ⟨_, rfl, hb, by rw [HM.out]; rfl⟩

theorem containsSpan_any (w : World) (v : Value) (L : List Sp) (hv : Reads spanR w v L) (hbig : L.length ≤ 1000000) :
    Calls Try.prog 46 #[v, .func (.func 48) #[] #[]] w fun e w' => e = .returned (.bool (!L.all Sp.ok)) ∧ Below w.heap.size w w' := by
  have HV := Lib.hid hv
  clear hv
  go_enter Try.func46, Try.ntmps46
  go_wp2_with (go_at_call 61; refine (indexSpan_any _ v L HV.out hbig).mono ?_; rintro e W1 ⟨i, rfl, hb1, hi⟩; have HI := Lib.hid hi; clear hi)
  go_ret
  exact ⟨ret_bool HI.out, hb1⟩

set_option maxRecDepth 100000 in
set_option maxHeartbeats 1000000 in
theorem limits_any (w : World) (v : Value) (L : List Int) (hv : Reads intR w v L) (hbig : L.length ≤ 1000000) :
    Calls Try.prog 45 #[v] w fun e w' => e = .returned (.bool (risesF 0 L)) ∧ w = w' := by
  obtain ⟨av, capv, rfl⟩ := hv.form
  have HV := Lib.hid hv
  clear hv
  go_enter Try.func45, Try.ntmps45
  go_wp2_with fail
  go_loop [3, 8] (fun l i => ∃ (k : Nat) (last : Int), k ≤ L.length ∧ i = .int .i64 k ∧ l = .int .i64 last ∧ RiseRest L k last) (fun _ i => L.length - (intOf i).toNat)
  case atStart => exact ⟨0, 0, by omega, rfl, rfl, RiseRest.start L⟩
  case round =>
    obtain ⟨k, last, hk, rfl, rfl, hno⟩ := hrel
    have HN := Lib.hid hno
    clear hno
    by_cases hlt : k < L.length
    · obtain ⟨y, hy⟩ : ∃ y, L[k]? = some y := ⟨_, List.getElem?_eq_getElem hlt⟩
      obtain ⟨b, off, rfl, hr⟩ := HV.out.at hy
      have m0 : w.cell? ⟨b, off + k, none⟩ = some (.int .i64 y) := by have := hr 0 _ rfl; simpa [intR] using this
      have HY := Lib.hid hy
      clear hy hr
      by_cases h1 : last < y
      · by_cases h2 : y ≤ 1048576
        · have HM := Lib.hid (HN.out.step HY.out h1 h2)
          clear HN HY
          go_wp2_with fail
          go_round
          case rel => exact ⟨k + 1, y, by omega, by go_num, rfl, HM.out⟩
          case measure => simp [intOf]; omega
        · have HM := Lib.hid (HN.out.bad HY.out (fun h => h2 h.2))
          clear HN HY
          go_wp2_with fail
          all_goals go_ret
          all_goals exact ⟨ret_bool HM.out.symm, rfl⟩
      · have HM := Lib.hid (HN.out.bad HY.out (fun h => h1 h.1))
        clear HN HY
        go_wp2_with fail
        all_goals go_ret
        all_goals exact ⟨ret_bool HM.out.symm, rfl⟩
    · obtain rfl : k = L.length := by omega
      have HM := Lib.hid HN.out.done
      clear HN
      go_wp2_with fail
      go_ret
      exact ⟨ret_bool HM.out.symm, rfl⟩

end Go.Proofs.Ytogajmbkjojdhaa
