/- The document's table: Put, Get, Keys. -/
import Derived.Test.YtnfcpknepnifgaaLruRef2
set_option linter.unusedVariables false
namespace Go.Proofs.Ytnfcpknepnifgaa
open Go.RowKit

theorem Owns.one {α : Type} {R : Rec α} (k : R.Ok) {B : Nat} {w : World} (hB : B ≤ w.heap.size) (x : α) : Owns R B (w.alloc (.cells (R.val x).cells R.ty)) (.slice (some ⟨w.heap.size, 0, none⟩) 1 1) [x] := by
  have hl := k.len x
  have hf : [x].flatMap R.cells = (R.val x).cells.toList := by simp [Rec.cells]
  refine ⟨by rw [hf, Array.length_toList, hl]; simp, .inr ⟨w.heap.size, 1, (R.val x).cells, rfl, hB, heap_alloc_new _ _, Nat.le_refl _, by simp [maxLen], by rw [hl, Nat.one_mul], ?_⟩⟩
  rw [hf, List.length_singleton, Nat.one_mul, List.take_of_length_le (by rw [Array.length_toList, hl]; exact Nat.le_refl _)]

/-- What a put leaves and tells, of a table without the key. -/
def RPut (w : World) (B r : Nat) (room : Int) (L1 : List Th) (k : ByteArray) (v : Int) (e : Ending) (w' : World) : Prop :=
  Upd [r] w w' ∧ (((L1.length : Int) + 1 ≤ room ∧ e = .returned (.tuple #[.string ⟨#[]⟩, .bool false]) ∧ ∃ u, RT B w' r room u (⟨k, v⟩ :: L1) ∧ ReadsAt thR w.heap.size w' u (⟨k, v⟩ :: L1)) ∨
    (room < (L1.length : Int) + 1 ∧ ∃ y, (⟨k, v⟩ :: L1)[L1.length]? = some y ∧ e = .returned (.tuple #[.string y.key, .bool true]) ∧ ∃ u, RT B w' r room u ((⟨k, v⟩ :: L1).eraseIdx L1.length) ∧ ReadsAt thR w.heap.size w' u ((⟨k, v⟩ :: L1).eraseIdx L1.length)))
def Dropped (w : World) (B r : Nat) (room : Int) (L1 : List Th) (e : Ending) (w' : World) : Prop := ∃ b, e = .returned (.bool b) ∧ Upd [r] w w' ∧ ∃ u, RT B w' r room u L1

set_option maxRecDepth 100000 in
set_option maxHeartbeats 4000000 in
theorem rput_of (w : World) (B r : Nat) (room : Int) (L1 : List Th) (k : ByteArray) (v : Int) (hrl : r < w.heap.size) (hK : Calls Try.prog 26 #[.pointer (some ⟨r, 0, none⟩), .string k] w (Dropped w B r room L1)) (hn : (L1.map Th.key).Nodup) (hk : ∀ x ∈ L1, x.key ≠ k) (hfew : L1.length < 100000) :
    Calls Try.prog 23 #[.pointer (some ⟨r, 0, none⟩), .string k, .int .i64 v] w (RPut w B r room L1 k v) := by
  have KD := Lib.hid hK
  have HN := Lib.hid (show ((⟨k, v⟩ :: L1).map Th.key).Nodup from by
    rw [List.map_cons, List.nodup_cons]
    exact ⟨fun hin => by obtain ⟨y, hy, e⟩ := List.mem_map.1 hin; exact hk y hy e, hn⟩)
  clear hK hn hk
  go_enter Try.func23, Try.ntmps23
  go_upto_region 2 with (go_at_call 26; refine KD.out.mono ?_; rintro e W1 ⟨b, rfl, hu1, u1, hT1⟩)
  obtain ⟨a1, cu1, rfl⟩ := hT1.out.lts.form
  have hs1 := hu1.size
  have hbB : Below W1.heap.size W1 (W1.alloc (.cells (thR.val ⟨k, v⟩).cells thR.ty)) := (Below.refl _ _).alloc (Nat.le_refl _) _
  have hO2 := Owns.one (R := thR) thOk (B := W1.heap.size) (w := W1) (Nat.le_refl _) ⟨k, v⟩
  have HT2 := Lib.hid (hT1.below hbB)
  have c1 := HT2.out.box.get (i := 1) rfl
  have hrl2 : r < W1.heap.size := by omega
  have HT1 := Lib.hid hT1
  clear hT1
  go_upto_region 3 with (first
    | (refine wl_build_rec thOk rfl _ rfl ⟨k, v⟩ rfl ?_; generalize W1.alloc (.cells (thR.val ⟨k, v⟩).cells thR.ty) = W2 at hbB hO2 HT2 c1 ⊢)
    | (refine wl_append_all thOk rfl _ _ rfl rfl W1.heap.size _ _ [⟨k, v⟩] L1 rfl rfl hO2 HT2.out.out.lts (by simp; omega) hbB.size ?_; intro u3 W3 hO3 hg3 hat3; obtain ⟨a3, cu3, rfl⟩ : ∃ a c, u3 = .slice a (L1.length + 1) c := (by obtain ⟨a, c, e⟩ := hO3.form; exact ⟨a, c, by rw [e]; simp⟩); have hb3 := hbB.grown hg3 hbB.size (fun k hk => (hO2.lt k hk).1); have hC3 := HT1.out.box.below hb3; have c13 := hC3.get (i := 1) rfl; have f13 := hC3.free (i := 1) rfl))
  have hU4 : Upd [r] W3 (W3.setCell ⟨r, 1, none⟩ (.slice a3 (L1.length + 1) cu3)) := (Upd.refl _ _).setCell (by simp) _
  have HT4 : RT B (W3.setCell ⟨r, 1, none⟩ (.slice a3 (L1.length + 1) cu3)) r room (.slice a3 (L1.length + 1) cu3) (⟨k, v⟩ :: L1) := by
    refine ⟨hC3.set 1 _, ?_, HT1.out.low, by simp; omega⟩
    refine (hO3.upd hU4 (fun q hq => ?_)).outF thOk _ (fun q hq => ?_)
    all_goals
      have := (hO3.lt q hq).1
      simp
      omega
  have hA4 := (hO3.upd hU4 (fun q hq => by have := (hO3.lt q hq).1; simp; omega)).at thOk
  have HU := Lib.hid ((hu1.trans (Upd.ofBelow _ hb3)).trans hU4)
  generalize W3.setCell ⟨r, 1, none⟩ (.slice a3 (L1.length + 1) cu3) = W4 at HT4 HU hA4 ⊢
  clear hg3 hat3 hO3 hO2 hbB HT2 c1 c13 f13 hC3 hU4 hb3 HT1
  have d0 := fun (z : Later W4) => z.cell (HT4.box.get (i := 0) rfl)
  have d1 := fun (z : Later W4) => z.cell (HT4.box.get (i := 1) rfl)
  have HT4 := Lib.hid HT4
  have HA4 := Lib.hid (hA4.mono hs1)
  clear hA4
  go_upto_region 3 with fail
  refine wp_region_later (by kernel_rfl) (by kernel_rfl) (Below.refl _ _) ?_
  repeat (first
    | go_big_quiet_skip
    | (go_big_quiet_want; (go_big_quiet_op; go_big_quiet_on)))
  refine wpQuiet_nil ?_
  rintro ⟨W5, hb5⟩
  dsimp only
  clear d0 d1
  have HT5 := Lib.hid (HT4.out.below hb5)
  have HU5 := Lib.hid (HU.out.trans (Upd.ofBelow _ hb5))
  by_cases hroom : (L1.length : Int) + 1 ≤ room
  · go_wp2_with fail
    go_ret2
    exact ⟨HU5.out, .inl ⟨hroom, rfl, _, HT5.out, HA4.out.below hb5⟩⟩
  · have hroom2 : room < (L1.length : Int) + 1 := Int.not_le.1 hroom
    obtain ⟨y, hy⟩ : ∃ y, (⟨k, v⟩ :: L1 : List Th)[L1.length]? = some y := ⟨_, List.getElem?_eq_getElem (by simp)⟩
    obtain ⟨b5, off5, rfl, hr5⟩ := HT5.out.out.lts.at hy
    have dk := fun (z : Later W5) => z.cell (show W5.cell? ⟨b5, off5 + L1.length * 2, none⟩ = some (.string y.key) from (th_cells hr5).1)
    have d1 := fun (z : Later W5) => z.cell (HT5.out.box.get (i := 1) rfl)
    have HY := Lib.hid hy
    clear hr5 hy hroom
    go_upto_region 5 with fail
    refine wp_region_later (by kernel_rfl) (by kernel_rfl) (Below.refl _ _) ?_
    repeat (first
      | go_big_quiet_skip
      | (go_big_quiet_want; (go_big_quiet_op; go_big_quiet_on)))
    refine wpQuiet_nil ?_
    rintro ⟨W6, hb6⟩
    dsimp only
    clear dk d1
    have KD2 := Lib.hid (rdrop_yes W6 B r room _ _ (HT5.out.below hb6) L1.length y HY.out HN.out)
    go_wp2_with (go_at_call 26; refine KD2.out.mono ?_; rintro e W7 ⟨rfl, hu7, u7, hT7, hA7⟩)
    go_ret2
    exact ⟨(HU5.out.trans (Upd.ofBelow _ hb6)).trans hu7, .inr ⟨hroom2, y, HY.out, rfl, u7, hT7, hA7.mono (by have := HU5.out.size; have := hb6.size; omega)⟩⟩

theorem rput_no (w : World) (B r : Nat) (room : Int) (u : Value) (L : List Th) (h : RT B w r room u L) (k : ByteArray) (hk : ∀ x ∈ L, x.key ≠ k) (hn : (L.map Th.key).Nodup) (v : Int) (hfew : L.length < 100000) :
    Calls Try.prog 23 #[.pointer (some ⟨r, 0, none⟩), .string k, .int .i64 v] w (RPut w B r room L k v) :=
  rput_of w B r room L k v h.lt ((rdrop_no w B r room u L h k hk).mono fun e w' ⟨he, hb⟩ => ⟨false, he, Upd.ofBelow _ hb, u, h.below hb⟩) hn hk hfew
theorem rput_yes (w : World) (B r : Nat) (room : Int) (u : Value) (L : List Th) (h : RT B w r room u L) (i : Nat) (x : Th) (hx : L[i]? = some x) (hn : (L.map Th.key).Nodup) (v : Int) (hfew : L.length < 100000) :
    Calls Try.prog 23 #[.pointer (some ⟨r, 0, none⟩), .string x.key, .int .i64 v] w (RPut w B r room (L.eraseIdx i) x.key v) := by
  have hs := List.eraseIdx_sublist L i
  refine rput_of w B r room _ x.key v h.lt ((rdrop_yes w B r room u L h i x hx hn).mono fun e w' ⟨he, hu, u', hT, _⟩ => ⟨true, he, hu, u', hT⟩) (hn.sublist (hs.map _)) (fun y hy e => ?_) (Nat.lt_of_le_of_lt (List.length_eraseIdx_le L i) hfew)
  obtain ⟨j, hj⟩ := List.mem_iff_getElem?.1 hy
  rw [List.getElem?_eraseIdx] at hj
  have a2 : (L.map Th.key)[i]? = some x.key := by rw [List.getElem?_map, hx]; rfl
  have hil := (List.getElem?_eq_some_iff.1 a2).1
  split at hj
  · have a1 : (L.map Th.key)[j]? = some y.key := by rw [List.getElem?_map, hj]; rfl
    rw [e, ← a2] at a1
    have := (List.getElem?_inj (List.getElem?_eq_some_iff.1 (by rw [List.getElem?_map, hj]; rfl : (L.map Th.key)[j]? = some y.key)).1 hn).1 a1
    omega
  · have a1 : (L.map Th.key)[j + 1]? = some y.key := by rw [List.getElem?_map, hj]; rfl
    rw [e, ← a2] at a1
    have := (List.getElem?_inj (List.getElem?_eq_some_iff.1 (by rw [List.getElem?_map, hj]; rfl : (L.map Th.key)[j + 1]? = some y.key)).1 hn).1 a1
    omega

theorem rget_no (w : World) (B r : Nat) (room : Int) (u : Value) (L : List Th) (h : RT B w r room u L) (k : ByteArray) (hk : ∀ x ∈ L, x.key ≠ k) :
    Calls Try.prog 24 #[.pointer (some ⟨r, 0, none⟩), .string k] w fun e w' => e = .returned (.tuple #[.int .i64 0, .bool false]) ∧ Below w.heap.size w w' := by
  have KP := Lib.hid (rpeek_no w B r room u L h k hk)
  have hr := h.box.range
  clear h hk
  go_enter Try.func24, Try.ntmps24
  go_wp2_with (first
    | (refine wpList_load_mid rfl 39 _ rfl r 0 rfl [.int .i64 room, u] _ hr Try.underlying39 rfl tRow ?_)
    | (go_at_call 25; refine KP.out.mono ?_; rintro e W2 ⟨rfl, hb2⟩))
  go_ret2
  exact ⟨rfl, hb2⟩
theorem rget_yes (w : World) (B r : Nat) (room : Int) (u : Value) (L : List Th) (h : RT B w r room u L) (i : Nat) (x : Th) (hx : L[i]? = some x) (hn : (L.map Th.key).Nodup) (hroom : (L.length : Int) ≤ room) (hfew : L.length < 100000) :
    Calls Try.prog 24 #[.pointer (some ⟨r, 0, none⟩), .string x.key] w (Turns w B r room (x :: L.eraseIdx i) (.tuple #[.int .i64 x.v, .bool true])) := by
  have KP := Lib.hid (rpeek_yes w B r room u L h i x hx hn)
  have hr := h.box.range
  have hil := (List.getElem?_eq_some_iff.1 hx).1
  have hlen : (L.eraseIdx i).length + 1 = L.length := by rw [List.length_eraseIdx_of_lt hil]; omega
  have KU := Lib.hid (fun (W : World) (hb : Below w.heap.size w W) => rput_yes W B r room u L (h.below hb) i x hx hn x.v hfew)
  clear h hx hn
  go_enter Try.func24, Try.ntmps24
  go_wp2_with (first
    | (refine wpList_load_mid rfl 39 _ rfl r 0 rfl [.int .i64 room, u] _ hr Try.underlying39 rfl tRow ?_)
    | (go_at_call 23; refine (KU.out _ hb2).mono ?_; rintro e W3 ⟨hu3, ⟨h9, rfl, u3, hT3, hA3⟩ | ⟨h9, y, hy, rfl, hT3⟩⟩)
    | (go_at_call 25; refine KP.out.mono ?_; rintro e W2 ⟨rfl, hb2⟩))
  · go_ret2
    exact ⟨rfl, (Upd.ofBelow _ hb2).trans hu3, u3, hT3, hA3.mono hb2.size⟩
  · omega

set_option maxRecDepth 100000 in
set_option maxHeartbeats 4000000 in
theorem rkeys_any (w : World) (room : Int) (u : Value) (L : List Th) (hv : Reads thR w u L) (hbig : L.length ≤ 100000) :
    Calls Try.prog 13 #[tagg room u] w fun e w' => ∃ v, e = .returned v ∧ Below w.heap.size w w' ∧ Owns strR w.heap.size w' v (L.map Th.key) := by
  obtain ⟨av, capv, rfl⟩ := hv.form
  have hb : Below w.heap.size w (w.alloc (.cells [.int .i64 room, .slice av L.length capv].toArray 39)) := (Below.refl _ _).alloc (Nat.le_refl _) _
  have hC := Cel.new w 39 [.int .i64 room, .slice av L.length capv]
  obtain ⟨W1, hW1⟩ : ∃ W1, W1 = w.alloc (.cells [.int .i64 room, .slice av L.length capv].toArray 39) := ⟨_, rfl⟩
  rw [← hW1] at hb hC
  have HV := Lib.hid (hv.below hb)
  have HC := Lib.hid hC
  have hO2 := Owns.made (R := strR) (B := W1.heap.size) (w := W1) (Nat.le_refl _)
  have hb12 : Below W1.heap.size W1 (W1.alloc (.cells #[] strR.ty)) := (Below.refl _ _).alloc (Nat.le_refl _) _
  clear hv hC
  go_enter Try.func13, Try.ntmps13
  go_upto_region 1 with fail
  show Code.wp _ _ _ _ (w.alloc (.cells [.int .i64 room, .slice av L.length capv].toArray 39))
  rw [← hW1]
  clear hW1
  go_wp2_with fail
  go_loopw [3, 4] (fun n j wr => ∃ q : Nat, q ≤ L.length ∧ j = .int .i64 q ∧ Below W1.heap.size W1 wr ∧ Owns strR W1.heap.size wr n ((L.map Th.key).take q)) (fun n j _ => L.length - (intOf j).toNat)
  case atStart => exact ⟨0, by omega, rfl, hb12, hO2⟩
  case round =>
    clear hO2 hb12
    obtain ⟨q, hq, rfl, hb1r, hO⟩ := hrel
    have HO := Lib.hid hO
    have hwr := hb1r.size
    have c1 := (HC.out.below hb1r).get (i := 1) rfl
    clear hO
    by_cases hlt : q < L.length
    · obtain ⟨y, hy⟩ : ∃ y, L[q]? = some y := ⟨_, List.getElem?_eq_getElem hlt⟩
      obtain ⟨b, off, rfl, hr2⟩ := (HV.out.below hb1r).at hy
      have m0 : wr.cell? ⟨b, off + q * 2, none⟩ = some (.string y.key) := (th_cells hr2).1
      have hl2 : ((L.map Th.key).take q).length = q := by simp; omega
      have T := Lib.hid (take_snoc (L := L.map Th.key) (k := q) (x := y.key) (by rw [List.getElem?_map, hy]; rfl))
      clear hy hr2
      go_wp2_with (first
        | (refine wl_build_rec strOk rfl _ rfl y.key rfl ?_; have hx5 := built_range (R := strR) (w := wr) y.key; have hb5 : Below wr.heap.size wr (wr.alloc (.cells (strR.val y.key).cells strR.ty)) := (Below.refl _ _).alloc (Nat.le_refl _) _; generalize wr.alloc (.cells (strR.val y.key).cells strR.ty) = W5 at hx5 hb5 ⊢; have hOo := HO.out.below hb5; have hszT := hb5.size)
        | (refine wl_append_rec strOk rfl _ _ rfl W1.heap.size _ ((L.map Th.key).take q) rfl hOo wr.heap.size 0 1 y.key rfl hx5 (by omega) (by omega) ?_; intro g cap W6 hO6 hg6 hat6))
      rw [T.out] at hO6
      rw [hl2] at hO6
      have hW6 := (bthen' hb1r hb5).grown hg6 (by omega) (fun k hk => (hOo.lt k hk).1)
      go_roundw
      case rel => exact ⟨q + 1, by omega, by go_num, hW6, hO6⟩
      case measure => simp [intOf]; omega
    · obtain rfl : q = L.length := by omega
      have hO := HO.out
      rw [List.take_of_length_le (by simp)] at hO
      have HO2 := Lib.hid hO
      clear HO hO
      go_wp2_with fail
      go_ret
      exact ⟨_, rfl, bthen' hb hb1r, HO2.out.mono hb.size⟩

end Go.Proofs.Ytnfcpknepnifgaa
