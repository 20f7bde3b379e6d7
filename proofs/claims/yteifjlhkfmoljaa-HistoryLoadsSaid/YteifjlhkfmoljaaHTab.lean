/- Put of a table of histograms, however it goes; a history's table: New, Hist, Observe, Estimate. -/
import Derived.Test.YteifjlhkfmoljaaHLru3
import Derived.Test.YteifjlhkfmoljaaQuantOf
set_option linter.unusedVariables false
namespace Go.Proofs.Yteifjlhkfmoljaa
open Go.RowKit

abbrev Rw := ByteArray × Hs
def rws (E : List (Ent Hs)) : List Rw := E.map fun x => (x.key, x.v)
def oth (k : ByteArray) (L : List Rw) : List Rw := L.filter fun p => decide (p.1 ≠ k)
def ahead (k : ByteArray) (v : Hs) (R : Nat) (L : List Rw) : List Rw := ((k, v) :: oth k L).take R
theorem oth_none {k : ByteArray} {L : List Rw} (h : ∀ x ∈ L, x.1 ≠ k) : oth k L = L := by
  unfold oth
  rw [List.filter_eq_self]
  intro x hx
  exact decide_eq_true (h x hx)
theorem oth_erase {L : List Rw} (hn : (L.map Prod.fst).Nodup) {i : Nat} {p : Rw} (h : L[i]? = some p) : oth p.1 L = L.eraseIdx i := by
  induction L generalizing i with
  | nil => simp at h
  | cons y r ih =>
    rw [List.map_cons, List.nodup_cons] at hn
    cases i with
    | zero =>
      simp at h
      subst h
      unfold oth
      rw [List.filter_cons_of_neg (by simp), List.eraseIdx_cons_zero]
      exact oth_none (fun x hx e => hn.1 (e ▸ List.mem_map.2 ⟨x, hx, rfl⟩))
    | succ i =>
      have h2 : r[i]? = some p := by simpa using h
      have hy : y.1 ≠ p.1 := fun e => hn.1 (e ▸ List.mem_map.2 ⟨p, List.mem_of_getElem? h2, rfl⟩)
      have := ih hn.2 h2
      unfold oth at this ⊢
      rw [List.filter_cons_of_pos (by simp [hy]), List.eraseIdx_cons_succ, this]
theorem map_erase {α β : Type} (f : α → β) (L : List α) (i : Nat) : (L.eraseIdx i).map f = (L.map f).eraseIdx i := by
  rw [List.eraseIdx_eq_take_drop_succ, List.eraseIdx_eq_take_drop_succ, List.map_append, List.map_take, List.map_drop]
theorem take_erase {α : Type} (L : List α) (n : Nat) (h : L.length = n + 1) : L.eraseIdx n = L.take n := by
  rw [List.eraseIdx_eq_take_drop_succ, List.drop_eq_nil_of_le (by omega), List.append_nil]

def PutAny (W : World) (B t : Nat) (room : Int) (c m : Nat) (E : List (Ent Hs)) (k : ByteArray) (v : Hs) (e : Ending) (w' : World) : Prop :=
  ∃ s b E1, e = .returned (.tuple #[.string s, .bool b]) ∧ Upd (tF TE t c m E) W w' ∧ TabH B w' t room c m E1 ∧ E1.length ≤ E.length + 1 ∧ (E1.length : Int) ≤ room ∧ rws E1 = ahead k v room.toNat (rws E)
theorem put_any (W : World) (B t : Nat) (room : Int) (c m : Nat) (E : List (Ent Hs)) (h : TabH B W t room c m E) (hB : B ≤ W.heap.size) (hfit : (E.length : Int) ≤ room) (hr : 1 ≤ room) (k : ByteArray) (v : Hs) (hbig : E.length ≤ 1000) :
    Calls Try.prog 17 #[.pointer (some ⟨t, 0, none⟩), .string k, hV v] W (PutAny W B t room c m E k v) := by
  rcases key_or E k with ⟨i, x, hx, rfl⟩ | hno
  · have hil := (List.getElem?_eq_some_iff.1 hx).1
    refine (put_old W B t room c m E h i x hx v).mono ?_
    rintro e w' ⟨rfl, hu, hT⟩
    have hlen : (E.eraseIdx i).length + 1 = E.length := by rw [List.length_eraseIdx_of_lt hil]; omega
    refine ⟨_, _, _, rfl, hu, hT, by simp; omega, by simp; omega, ?_⟩
    unfold ahead
    have hR : (rws E)[i]? = some (x.key, x.v) := by unfold rws; rw [List.getElem?_map, hx]; rfl
    have hN : ((rws E).map Prod.fst).Nodup := by unfold rws; rw [List.map_map]; exact h.keys
    rw [show oth x.key (rws E) = (rws E).eraseIdx i from oth_erase hN hR]
    unfold rws
    rw [← map_erase, List.map_cons, List.take_of_length_le]
    simp
    omega
  · have hK : ∀ s ∈ rws E, s.1 ≠ k := fun s hs => by obtain ⟨y, hy, rfl⟩ := List.mem_map.1 hs; exact hno y hy
    refine (put_new W B t room c m E h hB k hno v (by omega)).mono ?_
    rintro e w' ⟨x, rfl, rfl, hu, ⟨h1, rfl, hT⟩ | ⟨h1, y, hy, rfl, hT⟩⟩
    · refine ⟨_, _, _, rfl, hu, hT, by simp, by simp; omega, ?_⟩
      unfold ahead
      rw [oth_none hK]
      unfold rws
      rw [List.map_cons, List.take_of_length_le]
      simp
      omega
    · rw [take_erase (x :: E) E.length rfl] at hT
      have hl : ((x :: E).take E.length).length = E.length := by simp
      have hre : room.toNat = E.length := by omega
      refine ⟨_, _, _, rfl, hu, hT, by rw [hl]; omega, by rw [hl]; omega, ?_⟩
      unfold ahead
      rw [oth_none hK, hre]
      unfold rws
      rw [List.map_take, List.map_cons]

/-! ### A history's table -/
structure HTab (B : Nat) (w : World) (h t : Nat) (room : Int) (c m : Nat) (E : List (Ent Hs)) : Prop where
  box : w.heap[h]? = some (.cells #[.pointer (some ⟨t, 0, none⟩)] 51 (0, 0))
  tab : TabH B w t room c m E
  low : B ≤ h
  fits : (E.length : Int) ≤ room
theorem tab_two {B : Nat} {w : World} {t : Nat} {room : Int} {c m : Nat} {E : List (Ent Hs)} (h : TabH B w t room c m E) : ∀ b ∈ tF TE t c m E, b = m ∨ ∃ v, w.cell? ⟨b, 1, none⟩ = some v := by
  intro b hb
  unfold tF cF blocks lks at hb
  simp only [List.mem_cons, List.mem_append, List.map_map, List.mem_map, Function.comp_apply, Ent.lk] at hb
  rcases hb with rfl | rfl | (rfl | ⟨x, hx, rfl⟩) | ⟨x, hx, rfl⟩
  · exact .inr ⟨_, h.box.get (i := 1) rfl⟩
  · exact .inl rfl
  · exact .inr ⟨_, h.ch.box.get (i := 1) rfl⟩
  · obtain ⟨i, hi⟩ := List.mem_iff_getElem?.1 hx
    exact .inr ⟨_, (h.node hi).get (i := 1) rfl⟩
  · obtain ⟨y, hy⟩ : ∃ y, (vh x.v)[0]? = some y := ⟨_, List.getElem?_eq_getElem (by rw [vh_length]; omega)⟩
    exact .inr ⟨y, (h.ents x hx).get (i := 1) (by simpa using hy)⟩
namespace HTab
variable {B : Nat} {w w' : World} {h t : Nat} {room : Int} {c m : Nat} {E : List (Ent Hs)}
theorem out (H : HTab B w h t room c m E) : h ∉ tF TE t c m E := by
  intro hin
  rcases tab_two H.tab h hin with rfl | ⟨v, hv⟩
  · obtain ⟨es, clock, hh, -⟩ := H.tab.map.size
    have := H.box
    rw [hh] at this
    cases this
  · rw [cell_of_row w h 1 _ _ _ H.box] at hv
    simp at hv
theorem below (H : HTab B w h t room c m E) (hb : Below w.heap.size w w') : HTab B w' h t room c m E := ⟨kept hb H.box, H.tab.below hb, H.low, H.fits⟩
theorem ptr0 (H : HTab B w h t room c m E) : w.cell? ⟨h, 0, none⟩ = some (.pointer (some ⟨t, 0, none⟩)) := by rw [cell_of_row w h 0 _ _ _ H.box]; rfl
end HTab
theorem ptr_of {w : World} {h t : Nat} (H : w.heap[h]? = some (.cells #[.pointer (some ⟨t, 0, none⟩)] 51 (0, 0))) : w.cell? ⟨h, 0, none⟩ = some (.pointer (some ⟨t, 0, none⟩)) := by rw [cell_of_row w h 0 _ _ _ H]; rfl

theorem ok_any (w : World) (h t : Nat) (H : w.heap[h]? = some (.cells #[.pointer (some ⟨t, 0, none⟩)] 51 (0, 0))) : Calls Try.prog 16 #[.pointer (some ⟨h, 0, none⟩)] w fun e w' => e = .returned (.bool true) ∧ w = w' := by
  have c0 := ptr_of H
  clear H
  go_enter Try.func16, Try.ntmps16
  go_wp2_with fail
  go_ret
  exact ⟨rfl, rfl⟩

def look (k : ByteArray) (R : List Rw) : Hs := ((R.find? fun p => decide (p.1 = k)).map Prod.snd).getD noH
theorem look_none {k : ByteArray} {R : List Rw} (h : ∀ p ∈ R, p.1 ≠ k) : look k R = noH := by
  unfold look
  rw [List.find?_eq_none.2 (fun x hx => by simpa using h x hx)]
  rfl
theorem look_at {R : List Rw} (hn : (R.map Prod.fst).Nodup) {i : Nat} {p : Rw} (h : R[i]? = some p) : look p.1 R = p.2 := by
  induction R generalizing i with
  | nil => simp at h
  | cons y r ih =>
    rw [List.map_cons, List.nodup_cons] at hn
    cases i with
    | zero =>
      simp at h
      subst h
      unfold look
      rw [List.find?_cons_of_pos (by simp)]
      rfl
    | succ i =>
      have h2 : r[i]? = some p := by simpa using h
      have hy : y.1 ≠ p.1 := fun e => hn.1 (e ▸ List.mem_map.2 ⟨p, List.mem_of_getElem? h2, rfl⟩)
      have := ih hn.2 h2
      unfold look at this ⊢
      rw [List.find?_cons_of_neg (by simpa using hy)]
      exact this
theorem peek_any (w : World) (B t : Nat) (room : Int) (c m : Nat) (E : List (Ent Hs)) (h : TabH B w t room c m E) (k : ByteArray) :
    Calls Try.prog 29 #[.pointer (some ⟨t, 0, none⟩), .string k] w fun e w' => ∃ b, e = .returned (.tuple #[hV (look k (rws E)), .bool b]) ∧ Below w.heap.size w w' := by
  rcases key_or E k with ⟨i, x, hx, rfl⟩ | hno
  · refine (peek_yes w B t room c m E h i x hx).mono ?_
    rintro e w' ⟨rfl, hb⟩
    refine ⟨true, ?_, hb⟩
    rw [show look x.key (rws E) = x.v from look_at (p := (x.key, x.v)) (by unfold rws; rw [List.map_map]; exact h.keys) (i := i) (by unfold rws; rw [List.getElem?_map, hx]; rfl)]
  · refine (peek_no w B t room c m E h k hno).mono ?_
    rintro e w' ⟨rfl, hb⟩
    refine ⟨false, ?_, hb⟩
    rw [look_none (fun p hp => by obtain ⟨y, hy, rfl⟩ := List.mem_map.1 hp; exact hno y hy)]

set_option maxRecDepth 100000 in
set_option maxHeartbeats 1000000 in
theorem hist_any (w : World) (B h t : Nat) (room : Int) (c m : Nat) (E : List (Ent Hs)) (H : HTab B w h t room c m E) (k : ByteArray) :
    Calls Try.prog 19 #[.pointer (some ⟨h, 0, none⟩), .string k] w fun e w' => e = .returned (hV (look k (rws E))) ∧ Below w.heap.size w w' := by
  have HH := Lib.hid H
  clear H
  obtain ⟨v, hv⟩ : ∃ v, v = look k (rws E) := ⟨_, rfl⟩
  rw [← hv]
  have KP := fun (W : World) (h : TabH B W t room c m E) => peek_any W B t room c m E h k
  simp only [← hv] at KP
  have KP := Lib.hid KP
  clear hv
  go_enter Try.func19, Try.ntmps19
  go_upto_region 1 with fail
  show Code.wp _ _ _ _ (w.alloc (.cells (vh noH).toArray 49))
  have hb1 : Below w.heap.size w (w.alloc (.cells (vh noH).toArray 49)) := (Below.refl _ _).alloc (Nat.le_refl _) _
  have hn1 : (w.alloc (.cells (vh noH).toArray 49)).heap[w.heap.size]? = some (.cells (vh noH).toArray 49 (0, 0)) := heap_alloc_new _ _
  have HH1 := Lib.hid (HH.out.below hb1)
  generalize w.alloc (.cells (vh noH).toArray 49) = W1 at hb1 hn1 HH1 ⊢
  have c0 := HH1.out.ptr0
  go_upto_region 4 with (first
    | (go_at_call 16; refine (ok_any W1 h t HH1.out.box).mono ?_; rintro e w' ⟨rfl, rfl⟩)
    | (go_at_call 29; refine (KP.out W1 HH1.out.tab).mono ?_; rintro e W2 ⟨b, rfl, hb2⟩; have hn2 := kept hb2 hn1; have hs2 := lt_of_block hn2)
    | (refine wpList_store_row rfl 49 _ _ rfl W2.heap.size (vh v).toArray rfl rfl 49 (vh noH).toArray (heap_alloc_new _ _) (vhRow' v) (by simp only [List.size_toArray, vh_length]) (vhOne v) ?_))
  show Code.wp _ _ _ _ ((W2.alloc (.cells (vh noH).toArray 49)).setRow W2.heap.size (vh v).toArray)
  have hn3 : ((W2.alloc (.cells (vh noH).toArray 49)).setRow W2.heap.size (vh v).toArray).heap[W2.heap.size]? = some (.cells (vh v).toArray 49 (0, 0)) := setRow_heap _ _ _ _ _ _ (heap_alloc_new _ _)
  have hn4 : ((W2.alloc (.cells (vh noH).toArray 49)).setRow W2.heap.size (vh v).toArray).heap[w.heap.size]? = some (.cells (vh noH).toArray 49 (0, 0)) := by
    rw [setRow_other _ _ _ _ (by omega), hp_old hs2]
    exact hn2
  have hb4 : Below w.heap.size w ((W2.alloc (.cells (vh noH).toArray 49)).setRow W2.heap.size (vh v).toArray) := below_row ((bthen' hb1 hb2).alloc (by omega) _) (by omega) _
  generalize (W2.alloc (.cells (vh noH).toArray 49)).setRow W2.heap.size (vh v).toArray = W4 at hn3 hn4 hb4 ⊢
  generalize W2.heap.size = n2 at hn3 ⊢
  go_wp2_with (first
    | (refine wpList_load_row rfl 49 _ rfl n2 rfl 49 (vh v).toArray (0, 0) _ hn3 histU rfl (vhRow' v) ?_)
    | (refine wpList_store_row rfl 49 _ _ rfl w.heap.size (vh v).toArray rfl rfl 49 (vh noH).toArray hn4 (vhRow' v) (by simp only [List.size_toArray, vh_length]) (vhOne v) ?_))
  exact bodyPost_ret (v := hV v) (results_cell_row rfl _ _ w.heap.size 49 _ (0, 0) _ rfl (setRow_heap _ _ _ _ _ _ hn4) histU rfl (vhRow' v)) rfl ⟨rfl, below_row hb4 (Nat.le_refl _) _⟩

theorem ok_nil (w : World) : Calls Try.prog 16 #[.pointer none] w fun e w' => e = .returned (.bool false) ∧ w = w' := by
  go_enter Try.func16, Try.ntmps16
  go_wp2_with fail
  go_ret
  exact ⟨rfl, rfl⟩

/-! ### New -/
theorem hnew_none (w : World) (room : Int) (h : room < 1) : Calls Try.prog 7 #[.int .i64 room] w fun e w' => e = .returned (.pointer none) ∧ w = w' := by
  go_enter Try.func7, Try.ntmps7
  go_wp2_with fail
  go_ret
  exact ⟨rfl, rfl⟩
theorem hnew_any (w : World) (room : Int) (h1 : 1 ≤ room) : Calls Try.prog 7 #[.int .i64 room] w fun e w' => ∃ h t c m, e = .returned (.pointer (some ⟨h, 0, none⟩)) ∧ Below w.heap.size w w' ∧ HTab w.heap.size w' h t room c m [] := by
  have KN := Lib.hid (new_any w room h1)
  go_enter Try.func7, Try.ntmps7
  go_wp2_with (go_at_call 15; refine KN.out.mono ?_; rintro e W1 ⟨t, c, m, rfl, hb1, hT1⟩)
  go_ret
  exact ⟨W1.heap.size, t, c, m, rfl, hb1.alloc hb1.size _, heap_alloc_new _ _, hT1.below ((Below.refl _ _).alloc (Nat.le_refl _) _), hb1.size, by simp; omega⟩

/-! ### Observe -/
def addHs (v : Hs) (x : Int) : Hs := ⟨HistLaw.addH v.1 x.toNat, HistLaw.addH_length v.1 x.toNat v.2⟩
theorem hadd_any (v : Hs) (x : Int) (w : World) (h0 : 0 ≤ x) (h1 : x ≤ 18446744073709551615) :
    Calls Try.prog 18 #[hV v, .int .u64 x] w fun e w' => e = .returned (hV (addHs v x)) ∧ Below w.heap.size w w' := add_at v.1 v.2 x w h0 h1
def seen (R : Nat) (k : ByteArray) (x : Int) (L : List Rw) : List Rw := ahead k (addHs (look k L) x) R L
def Seen (W : World) (B h t : Nat) (room : Int) (c m : Nat) (E : List (Ent Hs)) (k : ByteArray) (x : Int) (e : Ending) (w' : World) : Prop :=
  e = .returned (.tuple #[]) ∧ ∃ E1, Upd (tF TE t c m E) W w' ∧ HTab B w' h t room c m E1 ∧ E1.length ≤ E.length + 1 ∧ rws E1 = seen room.toNat k x (rws E)
end Go.Proofs.Yteifjlhkfmoljaa
