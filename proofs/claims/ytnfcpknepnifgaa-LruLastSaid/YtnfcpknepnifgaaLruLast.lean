/- What is put stands first; the walk of the statement. (Printed by genlrulast.py.) -/
import Derived.Test.YtnfcpknepnifgaaLruActs
set_option linter.unusedVariables false
namespace Go.Proofs.Ytnfcpknepnifgaa
open Go.ChangeShapes Go.WideShapes Go.ChangeAt Go.RowKit Go.Deep

/-! ### What a put tells, however it goes -/
structure Kept (w wr : World) (t : Nat) (room : Int) (c m : Nat) (E : List (Ent Int)) : Prop where
  below : Below w.heap.size w wr
  tab : TabI w.heap.size wr t room c m E
  fits : (E.length : Int) ≤ room
theorem Kept.below' {w wr w' : World} {t : Nat} {room : Int} {c m : Nat} {E : List (Ent Int)} (h : Kept w wr t room c m E) (hb : Below wr.heap.size wr w') : Kept w w' t room c m E :=
  ⟨bthen' h.below hb, h.tab.below hb, h.fits⟩
def others (k : ByteArray) (L : List ByteArray) : List ByteArray := L.filter fun s => decide (s ≠ k)
def first (k : ByteArray) (R : Nat) (L : List ByteArray) : List ByteArray := (k :: others k L).take R
def PutAny (w W : World) (t : Nat) (room : Int) (c m : Nat) (E : List (Ent Int)) (k : ByteArray) (v : Int) (e : Ending) (w' : World) : Prop :=
  ∃ s b E1, e = .returned (.tuple #[.string s, .bool b]) ∧ Upd (tF TE t c m E) W w' ∧ Kept w w' t room c m E1 ∧ E1.length ≤ E.length + 1 ∧ (∃ x : Ent Int, E1[0]? = some x ∧ x.key = k ∧ x.v = v) ∧ E1.map Ent.key = first k room.toNat (E.map Ent.key)
theorem others_none {k : ByteArray} {L : List ByteArray} (h : ∀ x ∈ L, x ≠ k) : others k L = L := by
  unfold others
  rw [List.filter_eq_self]
  intro x hx
  exact decide_eq_true (h x hx)
theorem others_erase {L : List ByteArray} (hn : L.Nodup) {i : Nat} {k : ByteArray} (h : L[i]? = some k) : others k L = L.eraseIdx i := by
  induction L generalizing i with
  | nil => simp at h
  | cons y r ih =>
    rw [List.nodup_cons] at hn
    cases i with
    | zero =>
      simp at h
      subst h
      unfold others
      rw [List.filter_cons_of_neg (by simp), List.eraseIdx_cons_zero]
      exact others_none (fun x hx e => hn.1 (e ▸ hx))
    | succ i =>
      have h2 : r[i]? = some k := by simpa using h
      have hy : y ≠ k := fun e => hn.1 (e ▸ List.mem_of_getElem? h2)
      unfold others
      rw [List.filter_cons_of_pos (by simp [hy]), List.eraseIdx_cons_succ]
      have := ih hn.2 h2
      unfold others at this
      rw [this]
theorem map_erase {α β : Type} (f : α → β) (L : List α) (i : Nat) : (L.eraseIdx i).map f = (L.map f).eraseIdx i := by
  rw [List.eraseIdx_eq_take_drop_succ, List.eraseIdx_eq_take_drop_succ, List.map_append, List.map_take, List.map_drop]
theorem take_erase {α : Type} (L : List α) (n : Nat) (h : L.length = n + 1) : L.eraseIdx n = L.take n := by
  rw [List.eraseIdx_eq_take_drop_succ, List.drop_eq_nil_of_le (by omega), List.append_nil]

theorem put_any (w W : World) (t : Nat) (room : Int) (c m : Nat) (E : List (Ent Int)) (h : Kept w W t room c m E) (hr : 1 ≤ room) (k : ByteArray) (v : Int) (hbig : E.length ≤ 1000) :
    Calls Try.prog 8 #[.pointer (some ⟨t, 0, none⟩), .string k, .int .i64 v] W (PutAny w W t room c m E k v) := by
  have hfit := h.fits
  have step : ∀ {w'} {E1 : List (Ent Int)}, Upd (tF TE t c m E) W w' → TabI w.heap.size w' t room c m E1 → (E1.length : Int) ≤ room → Kept w w' t room c m E1 :=
    fun hu hT hf => ⟨hu.toBelow h.below h.below.size (fun i hi => (h.tab.low i hi).1), hT, hf⟩
  rcases key_or E k with ⟨i, x, hx, rfl⟩ | hno
  · have hil := (List.getElem?_eq_some_iff.1 hx).1
    refine (put_old W w.heap.size t room c m E h.tab i x hx v).mono ?_
    rintro e w' ⟨rfl, hu, hT⟩
    have hlen : (E.eraseIdx i).length + 1 = E.length := by rw [List.length_eraseIdx_of_lt hil]; omega
    refine ⟨_, _, _, rfl, hu, step hu hT (by simp; omega), by simp; omega, ⟨_, rfl, rfl, rfl⟩, ?_⟩
    unfold first
    rw [others_erase h.tab.keys (i := i) (by rw [List.getElem?_map, hx]; rfl), ← map_erase, List.map_cons, List.take_of_length_le]
    simp
    omega
  · have hK : ∀ s ∈ E.map Ent.key, s ≠ k := fun s hs => by obtain ⟨y, hy, rfl⟩ := List.mem_map.1 hs; exact hno y hy
    refine (put_new W w.heap.size t room c m E h.tab h.below.size k hno v (by omega)).mono ?_
    rintro e w' ⟨x, rfl, rfl, hu, ⟨h1, rfl, hT⟩ | ⟨h1, y, hy, rfl, hT⟩⟩
    · refine ⟨_, _, _, rfl, hu, step hu hT (by simp; omega), by simp, ⟨_, rfl, rfl, rfl⟩, ?_⟩
      unfold first
      rw [others_none hK, List.map_cons, List.take_of_length_le]
      simp
      omega
    · rw [take_erase (x :: E) E.length rfl] at hT
      have hl : ((x :: E).take E.length).length = E.length := by simp
      have hre : room.toNat = E.length := by omega
      obtain ⟨n, hn⟩ : ∃ n, E.length = n + 1 := ⟨E.length - 1, by omega⟩
      refine ⟨_, _, _, rfl, hu, step hu hT (by rw [hl]; omega), by rw [hl]; omega, ⟨x, by rw [hn]; rfl, rfl, rfl⟩, ?_⟩
      unfold first
      rw [others_none hK, hre, List.map_take, List.map_cons]

theorem first_snoc {k s : ByteArray} {R : Nat} {L : List ByteArray} : first k R (L ++ [s]) = if s ≠ k ∧ (first k R L).length < R then first k R L ++ [s] else first k R L := by
  unfold first others
  rw [List.filter_append]
  by_cases h : s = k
  · rw [if_neg (fun hh => hh.1 h), List.filter_cons_of_neg (by simp [h])]
    simp
  · rw [List.filter_cons_of_pos (by simp [h]), List.filter_nil, ← List.cons_append]
    by_cases h2 : ((k :: List.filter (fun s => decide (s ≠ k)) L).take R).length < R
    · rw [if_pos ⟨h, h2⟩]
      rw [List.length_take] at h2
      rw [List.take_of_length_le (l := k :: List.filter (fun s => decide (s ≠ k)) L) (by omega), List.take_of_length_le]
      rw [List.length_append, List.length_singleton]
      omega
    · rw [if_neg (fun hh => h2 hh.2)]
      rw [List.length_take] at h2
      rw [List.take_append_of_le_length (by omega)]
theorem first_len (k : ByteArray) (R : Nat) (L : List ByteArray) : (first k R L).length ≤ L.length + 1 := by
  unfold first others
  rw [List.length_take, List.length_cons]
  have := List.length_filter_le (fun s => decide (s ≠ k)) L
  omega
theorem first_nil (k : ByteArray) (R : Nat) (h : 1 ≤ R) : first k R [] = [k] := by
  unfold first others
  rw [List.filter_nil, List.take_of_length_le (by simpa using h)]

theorem lruLast_far (w : World) (room : Int) (v : Value) (A : List Ac) (a : Ac) (hv : Reads acR w v A) (h : 100 < A.length ∨ room < 1) :
    Calls Try.prog 3 #[.int .i64 room, v, .agg (acR.cells a).toArray] w fun e w' => e = .returned (.bool true) ∧ Below w.heap.size w w' := by
  obtain ⟨av, capv, rfl⟩ := hv.form
  have hb0 : Below w.heap.size w (w.alloc (.cells (acR.cells a).toArray 24)) := (Below.refl _ _).alloc (Nat.le_refl _) _
  obtain ⟨W0, hW0⟩ : ∃ W0, W0 = w.alloc (.cells (acR.cells a).toArray 24) := ⟨_, rfl⟩
  rw [← hW0] at hb0
  by_cases hr : room < 1
  · have KN := Lib.hid (new_none W0 room hr)
    by_cases h1 : 100 < A.length
    all_goals
      go_enter Try.func3, Try.ntmps3
      go_upto_region 1 with fail
      show Code.wp _ _ _ _ (w.alloc (.cells (acR.cells a).toArray 24))
      rw [← hW0]
      clear hW0
      go_wp2_with (first
        | (go_at_call 6; refine KN.out.mono ?_; rintro e w' ⟨rfl, rfl⟩)
        | (go_at_call 7; refine (live12_any _).mono ?_; rintro e W2 ⟨rfl, hb2⟩))
      go_ret
      exact ⟨rfl, bthen' hb0 hb2⟩
  · have h1 : 100 < A.length := by omega
    have hr2 : 1 ≤ room := by omega
    have KN := Lib.hid (new_any W0 room hr2)
    clear h hv
    go_enter Try.func3, Try.ntmps3
    go_upto_region 1 with fail
    show Code.wp _ _ _ _ (w.alloc (.cells (acR.cells a).toArray 24))
    rw [← hW0]
    clear hW0
    go_wp2_with (first
      | (go_at_call 6; refine KN.out.mono ?_; rintro e W1 ⟨t, c, m, rfl, hb1, hT1⟩)
      | (go_at_call 7; refine (live12_any _).mono ?_; rintro e W2 ⟨rfl, hb2⟩))
    go_ret
    exact ⟨rfl, bthen' hb0 (bthen' hb1 hb2)⟩

set_option maxRecDepth 100000 in
set_option maxHeartbeats 1500000 in
theorem lruLast_yes (w : World) (room : Int) (v : Value) (A : List Ac) (a0 : Ac) (hv : Reads acR w v A) (h1 : A.length ≤ 100) (hr : 1 ≤ room) :
    Calls Try.prog 3 #[.int .i64 room, v, .agg (acR.cells a0).toArray] w fun e w' => e = .returned (.bool true) ∧ Below w.heap.size w w' := by
  obtain ⟨av, capv, rfl⟩ := hv.form
  have hb0 : Below w.heap.size w (w.alloc (.cells (acR.cells a0).toArray 24)) := (Below.refl _ _).alloc (Nat.le_refl _) _
  have hr0 : (w.alloc (.cells (acR.cells a0).toArray 24)).rangeAt w.heap.size 0 (acR.cells a0) := fun j v hv => by
    rw [cell_of_row _ w.heap.size (0 + j) _ 24 (0, 0) (heap_alloc_new _ _)]
    simpa using hv
  obtain ⟨W0, hW0⟩ : ∃ W0, W0 = w.alloc (.cells (acR.cells a0).toArray 24) := ⟨_, rfl⟩
  rw [← hW0] at hb0 hr0
  have HV := Lib.hid (hv.below hb0)
  have HB0 := Lib.hid hb0
  have HQ : ActAt W0 w.heap.size 0 a0 := ⟨hr0⟩
  have KN := Lib.hid (new_any W0 room hr)
  clear hv hb0 hr0
  go_enter Try.func3, Try.ntmps3
  go_upto_region 1 with fail
  show Code.wp _ _ _ _ (w.alloc (.cells (acR.cells a0).toArray 24))
  rw [← hW0]
  clear hW0
  go_upto_block 0 with (go_at_call 6; refine KN.out.mono ?_; rintro e W1 ⟨t, c, m, rfl, hb1, hT1⟩)
  have HS : Kept W0 W1 t room c m [] := ⟨hb1, hT1, by simp; omega⟩
  clear hb1 hT1 KN
  go_cut [8] (fun i wr => ∃ E, E.length ≤ A.length ∧ i = .int .i64 A.length ∧ Kept W0 wr t room c m E)
  case first =>
    go_wp2_with fail
    go_loopw [8] (fun i wr => ∃ (k : Nat) (E : List (Ent Int)), k ≤ A.length ∧ E.length ≤ k ∧ i = .int .i64 k ∧ Kept W0 wr t room c m E) (fun i _ => A.length - (intOf i).toNat)
    case atStart => exact ⟨0, [], by omega, by simp, rfl, HS⟩
    case round =>
      clear HS
      obtain ⟨k, E, hk, hE, rfl, hK⟩ := hrel
      have HK := Lib.hid hK
      by_cases hlt : k < A.length
      · obtain ⟨a, ha⟩ : ∃ a, A[k]? = some a := ⟨_, List.getElem?_eq_getElem hlt⟩
        obtain ⟨b, off, rfl, hr2⟩ := (HV.out.below hK.below).at ha
        obtain ⟨b9, off9, e9, hA9⟩ := HV.out.at ha
        obtain ⟨rfl, rfl⟩ : b = b9 ∧ off = off9 := by simpa using e9
        have hA : ActAt W0 b (off + k * acR.n) a := ⟨hA9⟩
        clear ha hK hA9 e9
        go_upto_region 7 with fail
        have hne : Nonempty (Mix.InS (fun x => x.rangeAt b (off + k * acR.n) (acR.cells a))) := ⟨⟨wr, hr2⟩⟩
        have HRA := Lib.hid hr2
        have d1 := fun (z : Mix.InS (fun x => x.rangeAt b (off + k * acR.n) (acR.cells a))) => (show z.w.cell? ⟨b, off + k * 3 + 1, none⟩ = some (.string a.key) from (ac_parts z.h).2.1)
        have d2 := fun (z : Mix.InS (fun x => x.rangeAt b (off + k * acR.n) (acR.cells a))) => (show z.w.cell? ⟨b, off + k * 3 + 2, none⟩ = some (.int .i64 a.v) from (ac_parts z.h).2.2)
        refine Mix.wp_region_mix [([0, 1, 2, 3, 4, 5, 6, 7, 8, 9, 10], 11)] [] (fun w' => ∃ x : Mix.InS (fun x => x.rangeAt b (off + k * acR.n) (acR.cells a)), w' = x.w) (by kernel_rfl) (by kernel_rfl) (Mix.inS_mk (below_range (Below.refl _ _).drew hr2)) ?_
        clear hr2
        have hbd : Below wr.heap.size wr wr.drew := (Below.refl _ _).drew
        generalize wr.drew = W2 at hbd ⊢
        have HK2 := Lib.hid (HK.out.below' hbd)
        refine Mix.stages_cons ?_
        simp only [Mix.pickL, List.getElem?_cons_zero, List.getElem?_cons_succ]
        repeat (first
          | go_big_quiet_skip
          | (go_big_quiet_want; (go_big_quiet_op; go_big_quiet_on)))
        refine wpQuiet_nil ?_
        go_wp2_with (go_at_call 8; refine (put_any W0 W2 t room c m E HK2.out hr a.key a.v (by omega)).mono ?_; rintro e W3 ⟨s3, b3, E3, rfl, -, hK3, hE3, -, -⟩)
        refine Mix.onward_in (hA.range hK3.below) ?_
        clear d1 d2
        refine Mix.stages_nil ?_
        simp only [Mix.pickL]
        refine wpQuiet_nil ?_
        clear hne
        go_wp2_with fail
        go_roundw
        case rel => exact ⟨k + 1, E3, by omega, by omega, by go_num, hK3⟩
        case measure => simp [intOf]; omega
      · obtain rfl : k = A.length := by omega
        go_wp2_with fail
        go_meet
        exact ⟨E, hE, rfl, HK.out⟩
  case rest =>
    clear HS
    obtain ⟨E, hE, rfl, hK⟩ := hcut
    have HK := Lib.hid hK
    clear hK
    go_upto_region 9 with (go_at_call 9; refine (keys_any wc W0.heap.size t room c m E HK.out.tab (by omega)).mono ?_; rintro e W5 ⟨v5, rfl, hb5, hO5⟩)
    obtain ⟨a5, cu5, rfl⟩ := hO5.form
    rw [List.length_map]
    have HK5 := Lib.hid (HK.out.below' hb5)
    have HO5 := Lib.hid hO5
    clear hO5
    obtain ⟨-, n1, n2⟩ := ac_parts (HQ.range HK5.out.below)
    go_upto_region 10 with (go_at_call 8; refine (put_any W0 W5 t room c m E HK5.out hr a0.key a0.v (by omega)).mono ?_; rintro e W6 ⟨s6, b6, E6, rfl, hu6, hK6, hE6, ⟨x6, hx6, hxk, hxv⟩, hm6⟩)
    have hwas : Reads strR W6 (.slice a5 E.length cu5) (E.map Ent.key) := by
      have := (HO5.out.upd hu6 (fun q hq hin => by have h1 := (HO5.out.lt q hq).1; have h2 := (HK.out.tab.low q hin).2; omega)).lts strOk
      rwa [List.length_map] at this
    have HW6 := Lib.hid hwas
    have HK6 := Lib.hid hK6
    have HX6 := Lib.hid hx6
    have HM6 := Lib.hid hm6
    have HXK := Lib.hid hxk
    have HXV := Lib.hid hxv
    clear hwas hK6 hx6 hm6 hxk hxv n1 n2 hu6 HO5 HK5 HK
    obtain ⟨-, n1, -⟩ := ac_parts (HQ.range HK6.out.below)
    go_upto_block 2 with (refine wl_build_rec strOk rfl _ rfl a0.key rfl ?_)
    have hb7 : Below W6.heap.size W6 (W6.alloc (.cells (strR.val a0.key).cells strR.ty)) := (Below.refl _ _).alloc (Nat.le_refl _) _
    have hO7 := Owns.one (R := strR) strOk (B := W6.heap.size) (w := W6) (Nat.le_refl _) a0.key
    rw [← first_nil a0.key room.toNat (by omega)] at hO7
    have HO7 : Hid (Owns strR W6.heap.size _ _ (first a0.key room.toNat ((E.map Ent.key).take 0))) := Lib.hid hO7
    have HB7 := Lib.hid hb7
    clear hO7 hb7 n1
    show Code.wp _ _ _ _ (W6.alloc (.cells (strR.val a0.key).cells strR.ty))
    generalize W6.alloc (.cells (strR.val a0.key).cells strR.ty) = W7 at HO7 HB7 ⊢
    go_cut [10, 11] (fun u i wr => i = .int .i64 E.length ∧ Below W6.heap.size W6 wr ∧ Owns strR W6.heap.size wr u (first a0.key room.toNat (E.map Ent.key)))
    case first =>
      go_wp2_with fail
      go_loopw [10, 11] (fun u i wr => ∃ k : Nat, k ≤ E.length ∧ i = .int .i64 k ∧ Below W6.heap.size W6 wr ∧ Owns strR W6.heap.size wr u (first a0.key room.toNat ((E.map Ent.key).take k))) (fun _ i _ => E.length - (intOf i).toNat)
      case atStart => exact ⟨0, by omega, rfl, HB7.out, HO7.out⟩
      case round =>
        clear HO7 HB7
        obtain ⟨k, hk, rfl, hW, hO⟩ := hrel
        have HO := Lib.hid hO
        have HW := Lib.hid hW
        have hwr := hW.size
        obtain ⟨a3, cap3, rfl⟩ := hO.form
        clear hO hW
        by_cases hlt : k < E.length
        · obtain ⟨s, hs⟩ : ∃ s, (E.map Ent.key)[k]? = some s := ⟨_, List.getElem?_eq_getElem (by simpa using hlt)⟩
          obtain ⟨b, off, rfl, hr2⟩ := (HW6.out.below HW.out).at hs
          have T := first_snoc (k := a0.key) (s := s) (R := room.toNat) (L := (E.map Ent.key).take k)
          rw [take_snoc hs] at T
          have HL := Lib.hid (first_len a0.key room.toNat ((E.map Ent.key).take k))
          have d5 := fun (z : Later wr) => z.cell (show wr.cell? ⟨b, off + k, none⟩ = some (strR.val s) from by have := hr2 0 _ rfl; simpa [strR] using this)
          have d1 := fun (z : Later wr) => z.cell (show wr.cell? ⟨w.heap.size, 1, none⟩ = some (.string a0.key) from (ac_parts (HQ.range (bthen' HK6.out.below HW.out))).2.1)
          simp only [strR] at d5
          clear hr2 hs
          by_cases hsk : s = a0.key
          · have hsb : (s.toList == a0.key.toList) = true := by rw [hsk]; simp
            rw [if_neg (fun h => h.1 hsk)] at T
            have HT := Lib.hid T
            clear T hsk
            go_upto_region 14 with fail
            refine wp_region_later (by kernel_rfl) (by kernel_rfl) (Below.refl _ _) ?_
            repeat (first
              | go_big_quiet_skip
              | (go_big_quiet_want; (go_big_quiet_op; go_big_quiet_on)))
            refine wpQuiet_nil ?_
            rintro ⟨W8, hb8⟩
            dsimp only
            have hO8 := HO.out.below hb8
            clear d5 d1 HL
            go_wp2_with fail
            go_roundw
            case rel => exact ⟨k + 1, by omega, by go_num, bthen' HW.out hb8, by rw [HT.out]; exact hO8⟩
            case measure => simp [intOf]; omega
          · have hsb : (s.toList == a0.key.toList) = false := by rw [beq_eq_false_iff_ne, Ne, bytes_inj]; exact hsk
            by_cases hll : (first a0.key room.toNat ((E.map Ent.key).take k)).length < room.toNat
            · have hlb : (((first a0.key room.toNat ((E.map Ent.key).take k)).length : Nat) : Int) < room := by omega
              rw [if_pos ⟨hsk, hll⟩] at T
              have HT := Lib.hid T
              clear T hsk hll
              go_upto_region 14 with fail
              refine wp_region_later (by kernel_rfl) (by kernel_rfl) (Below.refl _ _) ?_
              repeat (first
                | go_big_quiet_skip
                | (go_big_quiet_want; (go_big_quiet_op; go_big_quiet_on)))
              refine wpQuiet_nil ?_
              rintro ⟨W8, hb8⟩
              dsimp only
              have hO8 := HO.out.below hb8
              have n8 : W8.cell? ⟨b, off + k, none⟩ = some (.string s) := d5 ⟨W8, hb8⟩
              have HO8 := Lib.hid hO8
              have hfl : (first a0.key room.toNat ((E.map Ent.key).take k)).length ≤ 1000 := by have := HL.out; rw [List.length_take, List.length_map] at this; omega
              clear d5 d1 hO8
              have HW8 := Lib.hid (bthen' HW.out hb8)
              go_wp2_with (first
                | (refine wl_build_rec strOk rfl _ rfl s rfl ?_; have hx9 := built_range (R := strR) (w := W8) s; have hb9 : Below W8.heap.size W8 (W8.alloc (.cells (strR.val s).cells strR.ty)) := (Below.refl _ _).alloc (Nat.le_refl _) _; generalize W8.alloc (.cells (strR.val s).cells strR.ty) = W9 at hx9 hb9 ⊢; have hOo := HO8.out.below hb9; have hs9 := hb9.size; have hs8 := HW8.out.size)
                | (refine wl_append_rec strOk rfl _ _ rfl W6.heap.size _ (first a0.key room.toNat ((E.map Ent.key).take k)) rfl hOo W8.heap.size 0 1 s rfl hx9 (by omega) (by omega) ?_; intro g6 cap W10 hO10 hg10 hat10; have hW10 := (bthen' HW8.out hb9).grown hg10 (by omega) (fun k hk => (hOo.lt k hk).1)))
              go_roundw
              case rel => exact ⟨k + 1, by omega, by go_num, hW10, by rw [HT.out]; exact hO10⟩
              case measure => simp [intOf]; omega
            · have hlb : ¬ ((((first a0.key room.toNat ((E.map Ent.key).take k)).length : Nat) : Int) < room) := by omega
              rw [if_neg (fun h => hll h.2)] at T
              have HT := Lib.hid T
              clear T hsk hll
              go_upto_region 14 with fail
              refine wp_region_later (by kernel_rfl) (by kernel_rfl) (Below.refl _ _) ?_
              repeat (first
                | go_big_quiet_skip
                | (go_big_quiet_want; (go_big_quiet_op; go_big_quiet_on)))
              refine wpQuiet_nil ?_
              rintro ⟨W8, hb8⟩
              dsimp only
              have hO8 := HO.out.below hb8
              clear d5 d1 HL
              go_wp2_with fail
              go_roundw
              case rel => exact ⟨k + 1, by omega, by go_num, bthen' HW.out hb8, by rw [HT.out]; exact hO8⟩
              case measure => simp [intOf]; omega
        · obtain rfl : k = E.length := by omega
          have hO := HO.out
          rw [show first a0.key room.toNat (List.take E.length (List.map Ent.key E)) = first a0.key room.toNat (List.map Ent.key E) from by rw [List.take_of_length_le (by simp)]] at hO ⊢
          have HO9 := Lib.hid hO
          clear hO HO HW6
          go_wp2_with fail
          go_meet
          exact ⟨rfl, HW.out, HO9.out⟩
    case rest =>
      clear HO7 HB7 HW6
      obtain ⟨rfl, hW, hO⟩ := hcut
      have HW := Lib.hid hW
      have HO := Lib.hid (hO.lts strOk)
      have HK := Lib.hid (HK6.out.below' hW)
      clear hW hO
      have KP := peek_yes wc W0.heap.size t room c m E6 HK.out.tab 0 x6 HX6.out
      rw [HXK.out, HXV.out] at KP
      have KP := Lib.hid KP
      obtain ⟨-, n1, n2⟩ := ac_parts (HQ.range HK.out.below)
      have KK := keys_any wc W0.heap.size t room c m E6 HK.out.tab (by omega)
      rw [HM6.out] at KK
      have KK := Lib.hid KK
      have HL := Lib.hid (show (first a0.key room.toNat (E.map Ent.key)).length ≤ 1000000 from by have := first_len a0.key room.toNat (E.map Ent.key); rw [List.length_map] at this; omega)
      go_wp2_with (first
        | (go_at_call 10; refine KP.out.mono ?_; rintro e w' ⟨rfl, rfl⟩)
        | (go_at_call 9; refine KK.out.mono ?_; rintro e W10 ⟨v10, rfl, hb10, hO10⟩; have HO10 := Lib.hid (hO10.lts strOk); clear hO10)
        | (go_at_call 11; refine (texts_any _ _ _ _ _ HO10.out (HO.out.below hb10) HL.out).mono ?_; rintro e W11 ⟨rfl, hb11⟩)
        | (go_at_call 7; refine (live12_any _).mono ?_; rintro e W12 ⟨rfl, hb12⟩))
      go_ret
      exact ⟨rfl, bthen' HB0.out (bthen' HK.out.below (bthen' hb10 (bthen' hb11 hb12)))⟩

theorem lruLast_of (w : World) (room : Int) (v : Value) (A : List Ac) (a : Ac) (hv : Reads acR w v A) : Calls Try.prog 3 #[.int .i64 room, v, .agg (acR.cells a).toArray] w fun e w' => e = .returned (.bool true) ∧ Below w.heap.size w w' := by
  by_cases h1 : 100 < A.length ∨ room < 1
  · exact lruLast_far w room v A a hv h1
  · exact lruLast_yes w room v A a hv (by omega) (by omega)

end Go.Proofs.Ytnfcpknepnifgaa

