/- A table and the document's, side by side. -/
import Derived.Test.YtnfcpknepnifgaaLruLive
import Derived.Test.YtnfcpknepnifgaaLruRef3
set_option linter.unusedVariables false
namespace Go.Proofs.Ytnfcpknepnifgaa
open Go.RowKit

def thL (E : List (Ent Int)) : List Th := E.map fun x => ⟨x.key, x.v⟩
theorem thL_keys (E : List (Ent Int)) : (thL E).map Th.key = E.map Ent.key := by simp [thL, Function.comp_def]
theorem thL_length (E : List (Ent Int)) : (thL E).length = E.length := by simp [thL]
theorem thL_at {E : List (Ent Int)} {i : Nat} {x : Ent Int} (h : E[i]? = some x) : (thL E)[i]? = some ⟨x.key, x.v⟩ := by unfold thL; rw [List.getElem?_map, h]; rfl
theorem thL_erase (E : List (Ent Int)) (i : Nat) : thL (E.eraseIdx i) = (thL E).eraseIdx i := by
  unfold thL
  rw [List.eraseIdx_eq_take_drop_succ, List.eraseIdx_eq_take_drop_succ, List.map_append, List.map_take, List.map_drop]
theorem thL_none {E : List (Ent Int)} {k : ByteArray} (h : ∀ x ∈ E, x.key ≠ k) : ∀ x ∈ thL E, x.key ≠ k := by
  intro x hx
  obtain ⟨y, hy, rfl⟩ := List.mem_map.1 hx
  exact h y hy

theorem ReadsOut.updBoth {α : Type} {R : Rec α} {F F1 : List Nat} {w w' : World} {v : Value} {L : List α} (h1 : ReadsOut R F1 w v L) (h2 : ReadsOut R F w v L) (hu : Upd F w w') : ReadsOut R F1 w' v L := by
  rcases h1 with h | ⟨b, off, cap, hv, hb, hr⟩
  · exact .inl h
  · rcases h2 with h | ⟨b2, off2, cap2, hv2, hb2, hr2⟩
    · exact .inl h
    · rw [hv] at hv2
      simp only [Value.slice.injEq, Option.some.injEq, Addr.mk.injEq, and_true] at hv2
      obtain ⟨⟨rfl, rfl⟩, -⟩ := hv2
      exact .inr ⟨b, off, cap, hv, hb, fun i x hx => hu.range hb2 (hr i x hx)⟩
theorem RT.updF {B : Nat} {w w' : World} {r : Nat} {room : Int} {u : Value} {L : List Th} {F : List Nat} (h : RT B w r room u L) (hu : Upd F w w') (hr : r ∉ F) (ho : ReadsOut thR F w u L) : RT B w' r room u L :=
  ⟨h.box.upd hu hr, h.out.updBoth ho hu, h.low, h.few⟩

/-- The document's table is none of the table's blocks: their cells tell. -/
theorem rt_apart {B B' : Nat} {w : World} {t r : Nat} {room room' : Int} {c m : Nat} {E : List (Ent Int)} {u : Value} {L : List Th} (hT : TabI B w t room c m E) (hR : RT B' w r room' u L) : r ∉ tF TE t c m E := by
  obtain ⟨a, cu, hu⟩ := hR.out.lts.form
  have r0 := hR.box.get (i := 0) rfl
  have r1 := hR.box.get (i := 1) rfl
  intro hin
  unfold tF cF blocks lks at hin
  simp only [List.mem_cons, List.mem_append, List.map_map, List.mem_map, Function.comp_apply, Ent.lk] at hin
  rcases hin with h | h | (h | ⟨x, hx, h⟩) | ⟨x, hx, h⟩
  · subst h
    have := hT.box.get (i := 1) rfl
    rw [r1, hu] at this
    cases this
  · subst h
    obtain ⟨es, clock, hh, -⟩ := hT.map.size
    unfold World.cell? at r0
    rw [hh] at r0
    cases r0
  · subst h
    have := hT.ch.box.get (i := 0) rfl
    rw [r0] at this
    cases this
  · subst h
    obtain ⟨i, hi⟩ := List.mem_iff_getElem?.1 hx
    have := (hT.node hi).get (i := 0) rfl
    rw [r0] at this
    cases this
  · subst h
    have := (hT.ents x hx).get (i := 0) rfl
    rw [r0] at this
    cases this

structure Both (w wr : World) (t r : Nat) (room : Int) (c m : Nat) (E : List (Ent Int)) (u : Value) : Prop where
  below : Below w.heap.size w wr
  tab : TabI w.heap.size wr t room c m E
  ref : RT w.heap.size wr r room u (thL E)
  apart : ReadsOut thR (tF TE t c m E) wr u (thL E)
  fits : (E.length : Int) ≤ room
namespace Both
variable {w wr w' : World} {t r : Nat} {room : Int} {c m : Nat} {E : List (Ent Int)} {u : Value}
theorem rout (h : Both w wr t r room c m E u) : r ∉ tF TE t c m E := rt_apart h.tab h.ref
theorem below' (h : Both w wr t r room c m E u) (hb : Below wr.heap.size wr w') : Both w w' t r room c m E u :=
  ⟨bthen' h.below hb, h.tab.below hb, h.ref.below hb, h.apart.upd (Upd.ofBelow _ hb), h.fits⟩
/-- Behind what is done to the table. -/
theorem table (h : Both w wr t r room c m E u) (hu : Upd (tF TE t c m E) wr w') : Below w.heap.size w w' ∧ RT w.heap.size w' r room u (thL E) :=
  ⟨hu.toBelow h.below h.below.size (fun i hi => (h.tab.low i hi).1), h.ref.updF hu h.rout h.apart⟩
/-- .. and then to the document's. -/
theorem turn {W1 W2 : World} {E' : List (Ent Int)} {u0 u' : Value} {L0 : List Th} (hb : Below w.heap.size w W1) (hT : TabI w.heap.size W1 t room c m E') (hR0 : RT w.heap.size W1 r room u0 L0) (hu : Upd [r] W1 W2) (hR : RT w.heap.size W2 r room u' (thL E')) (hA : ReadsAt thR W1.heap.size W2 u' (thL E')) (hf : (E'.length : Int) ≤ room) : Both w W2 t r room c m E' u' :=
  ⟨hu.toBelow hb hb.size (fun i hi => by simp at hi; subst hi; exact hR0.low), hT.upd hu (fun b hb2 => by simp; intro e; subst e; exact rt_apart hT hR0 hb2), hR, hA.out _ (fun i hi => (hT.low i hi).2), hf⟩
end Both

def RRoom (w : World) (B r : Nat) (room : Int) (L1 : List Th) (k : ByteArray) (v : Int) (e : Ending) (w' : World) : Prop :=
  e = .returned (.tuple #[.string ⟨#[]⟩, .bool false]) ∧ Upd [r] w w' ∧ ∃ u, RT B w' r room u (⟨k, v⟩ :: L1) ∧ ReadsAt thR w.heap.size w' u (⟨k, v⟩ :: L1)
theorem RPut.room {w : World} {B r : Nat} {room : Int} {L1 : List Th} {k : ByteArray} {v : Int} (hr : (L1.length : Int) + 1 ≤ room) (e : Ending) (w' : World) (h : RPut w B r room L1 k v e w') : RRoom w B r room L1 k v e w' := by
  obtain ⟨h1, ⟨_, h2, h3⟩ | ⟨h2, _⟩⟩ := h
  · exact ⟨h2, h1, h3⟩
  · omega
def RFull (w : World) (B r : Nat) (room : Int) (L1 : List Th) (k : ByteArray) (v : Int) (y : Th) (e : Ending) (w' : World) : Prop :=
  e = .returned (.tuple #[.string y.key, .bool true]) ∧ Upd [r] w w' ∧ ∃ u, RT B w' r room u ((⟨k, v⟩ :: L1).eraseIdx L1.length) ∧ ReadsAt thR w.heap.size w' u ((⟨k, v⟩ :: L1).eraseIdx L1.length)
theorem RPut.full {w : World} {B r : Nat} {room : Int} {L1 : List Th} {k : ByteArray} {v : Int} {y : Th} (hr : room < (L1.length : Int) + 1) (hy : (⟨k, v⟩ :: L1)[L1.length]? = some y) (e : Ending) (w' : World) (h : RPut w B r room L1 k v e w') : RFull w B r room L1 k v y e w' := by
  obtain ⟨h1, ⟨h2, _⟩ | ⟨_, y2, h2, h3, h4⟩⟩ := h
  · omega
  · rw [hy] at h2
    cases h2
    exact ⟨h3, h1, h4⟩

/-! ### a call -/
structure Ac where
  kind : Int
  key : ByteArray
  v : Int
def acR : Rec Ac := ⟨24, 22, 3, 32, fun a => .agg #[.int .i64 a.kind, .string a.key, .int .i64 a.v], ⟨0, ⟨#[]⟩, 0⟩⟩
theorem acOk : acR.Ok where
  pos := by decide
  small := by decide
  bsmall := by decide
  len := fun _ => rfl
  one := by
    intro x v hv
    simp [Rec.cells, acR, Value.cells] at hv
    rcases hv with rfl | rfl | rfl <;> rfl
  slice := Try.underlying22
  info := ⟨_, rfl, rfl, rfl, rfl⟩
  fill := by
    intro y
    rw [show ((Array.range (1 * acR.n)).map (fun x => (acR.val acR.zero).cells[x % (acR.val acR.zero).cells.size]!)) = #[.int .i64 0, .string ⟨#[]⟩, .int .i64 0] from by apply Array.toList_inj.1; rw [Array.toList_map, Array.toList_range]; rfl]
    simp [Instr.fill, Value.cells, acR]
theorem ac_parts {w : World} {b o : Nat} {a : Ac} (h : w.rangeAt b o (acR.cells a)) : w.cell? ⟨b, o, none⟩ = some (.int .i64 a.kind) ∧ w.cell? ⟨b, o + 1, none⟩ = some (.string a.key) ∧ w.cell? ⟨b, o + 2, none⟩ = some (.int .i64 a.v) :=
  ⟨by simpa using h 0 _ rfl, by simpa using h 1 _ rfl, by simpa using h 2 _ rfl⟩

/-- Both are again side by side, with at most one thing more. -/
def DoesGives (w : World) (t r : Nat) (room : Int) (c m n : Nat) (e : Ending) (w' : World) : Prop := e = .returned (.bool true) ∧ ∃ E u, E.length ≤ n + 1 ∧ Both w w' t r room c m E u

set_option maxRecDepth 100000 in
set_option maxHeartbeats 8000000 in
theorem does_put (w W : World) (t r : Nat) (room : Int) (c m : Nat) (E : List (Ent Int)) (u : Value) (h : Both w W t r room c m E u) (a : Ac) (ha : a.kind = 0) (hbig : E.length < 10000) :
    Calls Try.prog 12 #[.pointer (some ⟨t, 0, none⟩), .pointer (some ⟨r, 0, none⟩), .agg (acR.cells a).toArray] W (DoesGives w t r room c m E.length) := by
  have hb0 : Below W.heap.size W (W.alloc (.cells (acR.cells a).toArray 24)) := (Below.refl _ _).alloc (Nat.le_refl _) _
  have hr0 : (W.alloc (.cells (acR.cells a).toArray 24)).rangeAt W.heap.size 0 (acR.cells a) := fun j v hv => by
    rw [cell_of_row _ W.heap.size (0 + j) _ 24 (0, 0) (heap_alloc_new _ _)]
    simpa using hv
  obtain ⟨W0, hW0⟩ : ∃ W0, W0 = W.alloc (.cells (acR.cells a).toArray 24) := ⟨_, rfl⟩
  rw [← hW0] at hb0 hr0
  have HB0 := Lib.hid (h.below' hb0)
  have HR0 := Lib.hid hr0
  obtain ⟨n0, n1, n2⟩ := ac_parts hr0
  have hnF : W.heap.size ∉ tF TE t c m E := fun hin => Nat.lt_irrefl _ (h.tab.low _ hin).2
  have hkb : (a.kind == 0) = true := by simp [ha]
  have hs0 := HB0.out.below.size
  clear h hr0 ha
  rcases key_or E a.key with ⟨i, x, hx, hxk⟩ | hno
  · have KT := put_old W0 w.heap.size t room c m E HB0.out.tab i x hx a.v
    rw [hxk] at KT
    have KT := Lib.hid KT
    have hlx := thL_at hx
    have hil := (List.getElem?_eq_some_iff.1 hx).1
    have KR := Lib.hid (fun (W1 : World) (hR : RT w.heap.size W1 r room u (thL E)) => show Calls Try.prog 23 #[.pointer (some ⟨r, 0, none⟩), .string a.key, .int .i64 a.v] W1 (RRoom W1 w.heap.size r room ((thL E).eraseIdx i) a.key a.v) from by
      have := rput_yes W1 w.heap.size r room u (thL E) hR i _ hlx (by rw [thL_keys]; exact HB0.out.tab.keys) a.v (by rw [thL_length]; omega)
      simp only [hxk] at this
      refine this.mono (RPut.room ?_)
      have := HB0.out.fits
      rw [List.length_eraseIdx_of_lt (by rw [thL_length]; exact hil), thL_length]
      omega)
    have HE := Lib.hid (show (⟨a.key, a.v⟩ :: (thL E).eraseIdx i : List Th) = thL (⟨x.g, x.e, a.key, a.v⟩ :: E.eraseIdx i) from by
      show _ = _ :: thL (E.eraseIdx i)
      rw [thL_erase])
    clear hx hxk hlx
    go_enter Try.func12, Try.ntmps12
    go_upto_region 1 with fail
    show Code.wp _ _ _ _ (W.alloc (.cells (acR.cells a).toArray 24))
    rw [← hW0]
    clear hW0
    go_wp2_with (first
      | (go_at_call 23; refine (KR.out _ (HB0.out.table hu1).2).mono ?_; rintro e W2 ⟨rfl, hu2, u2, hR2, hA2⟩)
      | (go_at_call 8; refine KT.out.mono ?_; rintro e W1 ⟨rfl, hu1, hT1⟩; obtain ⟨-, m1, m2⟩ := ac_parts (hu1.range hnF HR0.out)))
    go_ret
    rw [HE.out] at hR2 hA2
    refine ⟨rfl, _, u2, ?_, Both.turn (HB0.out.table hu1).1 hT1 (HB0.out.table hu1).2 hu2 hR2 hA2 ?_⟩
    · simp only [List.length_cons, List.length_eraseIdx_of_lt hil]; omega
    · have := HB0.out.fits
      simp only [List.length_cons, List.length_eraseIdx_of_lt hil]; omega
  · have KR0 := fun (W1 : World) (hR : RT w.heap.size W1 r room u (thL E)) => rput_no W1 w.heap.size r room u (thL E) hR a.key (thL_none hno) (by rw [thL_keys]; exact HB0.out.tab.keys) a.v (by rw [thL_length]; omega)
    by_cases hroom : (E.length : Int) + 1 ≤ room
    · have KT := Lib.hid (put_room W0 w.heap.size t room c m E HB0.out.tab hs0 a.key hno a.v (by omega) hroom)
      have KR := Lib.hid (fun (W1 : World) (hR : RT w.heap.size W1 r room u (thL E)) => (KR0 W1 hR).mono (RPut.room (by rw [thL_length]; exact hroom)))
      clear KR0 hno
      go_enter Try.func12, Try.ntmps12
      go_upto_region 1 with fail
      show Code.wp _ _ _ _ (W.alloc (.cells (acR.cells a).toArray 24))
      rw [← hW0]
      clear hW0
      go_wp2_with (first
        | (go_at_call 23; refine (KR.out _ (HB0.out.table hu1).2).mono ?_; rintro e W2 ⟨rfl, hu2, u2, hR2, hA2⟩)
        | (go_at_call 8; refine KT.out.mono ?_; rintro e W1 ⟨rfl, x, hxk, hxv, hu1, hT1⟩; have HXK := Lib.hid hxk; have HXV := Lib.hid hxv; clear hxk hxv; obtain ⟨-, m1, m2⟩ := ac_parts (hu1.range hnF HR0.out)))
      go_ret
      have HE : (⟨a.key, a.v⟩ :: thL E : List Th) = thL (x :: E) := by
        show _ = (⟨x.key, x.v⟩ : Th) :: thL E
        rw [HXK.out, HXV.out]
      rw [HE] at hR2 hA2
      exact ⟨rfl, _, u2, by simp, Both.turn (HB0.out.table hu1).1 hT1 (HB0.out.table hu1).2 hu2 hR2 hA2 (by simp only [List.length_cons]; omega)⟩
    · have hroom2 : room < (E.length : Int) + 1 := Int.not_le.1 hroom
      have KT := Lib.hid (put_full W0 w.heap.size t room c m E HB0.out.tab hs0 a.key hno a.v (by omega) hroom2)
      have KR := Lib.hid (fun (W1 : World) (hR : RT w.heap.size W1 r room u (thL E)) (y : Th) (hy : (⟨a.key, a.v⟩ :: thL E)[(thL E).length]? = some y) => (KR0 W1 hR).mono (RPut.full (by rw [thL_length]; exact hroom2) hy))
      have hfits := HB0.out.fits
      clear KR0 hno hroom
      go_enter Try.func12, Try.ntmps12
      go_upto_region 1 with fail
      show Code.wp _ _ _ _ (W.alloc (.cells (acR.cells a).toArray 24))
      rw [← hW0]
      clear hW0
      go_wp2_with (first
        | (go_at_call 23; refine (KR.out _ (HB0.out.table hu1).2 ⟨y.key, y.v⟩ HY.out).mono ?_; rintro e W2 ⟨rfl, hu2, u2, hR2, hA2⟩)
        | (go_at_call 8; refine KT.out.mono ?_; rintro e W1 ⟨x, y, rfl, hxk, hxv, hu1, hy, hT1⟩; have HE := Lib.hid (show (⟨a.key, a.v⟩ :: thL E : List Th) = thL (x :: E) from (by show _ = (⟨x.key, x.v⟩ : Th) :: thL E; rw [hxk, hxv])); have HY := Lib.hid (show (⟨a.key, a.v⟩ :: thL E)[(thL E).length]? = some ⟨y.key, y.v⟩ from (by rw [HE.out, thL_length]; exact thL_at hy)); clear hxk hxv hy; obtain ⟨-, m1, m2⟩ := ac_parts (hu1.range hnF HR0.out)))
      go_ret
      rw [HE.out, thL_length, ← thL_erase] at hR2 hA2
      have hlen : ((x :: E).eraseIdx E.length).length = E.length := by rw [List.length_eraseIdx_of_lt (by simp)]; simp
      exact ⟨rfl, _, u2, by rw [hlen]; omega, Both.turn (HB0.out.table hu1).1 hT1 (HB0.out.table hu1).2 hu2 hR2 hA2 (by rw [hlen]; exact hfits)⟩

set_option maxRecDepth 100000 in
set_option maxHeartbeats 8000000 in
theorem does_get (w W : World) (t r : Nat) (room : Int) (c m : Nat) (E : List (Ent Int)) (u : Value) (h : Both w W t r room c m E u) (a : Ac) (ha : a.kind = 1) (hbig : E.length < 10000) :
    Calls Try.prog 12 #[.pointer (some ⟨t, 0, none⟩), .pointer (some ⟨r, 0, none⟩), .agg (acR.cells a).toArray] W (DoesGives w t r room c m E.length) := by
  have hb0 : Below W.heap.size W (W.alloc (.cells (acR.cells a).toArray 24)) := (Below.refl _ _).alloc (Nat.le_refl _) _
  have hr0 : (W.alloc (.cells (acR.cells a).toArray 24)).rangeAt W.heap.size 0 (acR.cells a) := fun j v hv => by
    rw [cell_of_row _ W.heap.size (0 + j) _ 24 (0, 0) (heap_alloc_new _ _)]
    simpa using hv
  obtain ⟨W0, hW0⟩ : ∃ W0, W0 = W.alloc (.cells (acR.cells a).toArray 24) := ⟨_, rfl⟩
  rw [← hW0] at hb0 hr0
  have HB0 := Lib.hid (h.below' hb0)
  have HR0 := Lib.hid hr0
  obtain ⟨n0, n1, n2⟩ := ac_parts hr0
  have hnF : W.heap.size ∉ tF TE t c m E := fun hin => Nat.lt_irrefl _ (h.tab.low _ hin).2
  have hkb : (a.kind == 0) = false := by simp [ha]
  have hkb1 : (a.kind == 1) = true := by simp [ha]
  have hs0 := HB0.out.below.size
  clear h hr0 ha
  rcases key_or E a.key with ⟨i, x, hx, hxk⟩ | hno
  · have KT := get_yes W0 w.heap.size t room c m E HB0.out.tab i x hx
    rw [hxk] at KT
    have KT := Lib.hid KT
    have hlx := thL_at hx
    have hil := (List.getElem?_eq_some_iff.1 hx).1
    have KR := Lib.hid (fun (W1 : World) (hR : RT w.heap.size W1 r room u (thL E)) => show Calls Try.prog 24 #[.pointer (some ⟨r, 0, none⟩), .string a.key] W1 (Turns W1 w.heap.size r room (⟨x.key, x.v⟩ :: (thL E).eraseIdx i) (.tuple #[.int .i64 x.v, .bool true])) from by
      have := rget_yes W1 w.heap.size r room u (thL E) hR i _ hlx (by rw [thL_keys]; exact HB0.out.tab.keys) (by rw [thL_length]; exact HB0.out.fits) (by rw [thL_length]; omega)
      simp only [hxk] at this ⊢
      exact this)
    have HE := Lib.hid (show (⟨x.key, x.v⟩ :: (thL E).eraseIdx i : List Th) = thL (x :: E.eraseIdx i) from by
      show _ = _ :: thL (E.eraseIdx i)
      rw [thL_erase])
    clear hx hxk hlx
    go_enter Try.func12, Try.ntmps12
    go_upto_region 1 with fail
    show Code.wp _ _ _ _ (W.alloc (.cells (acR.cells a).toArray 24))
    rw [← hW0]
    clear hW0
    go_wp2_with (first
      | (go_at_call 24; refine (KR.out _ (HB0.out.table hu1).2).mono ?_; rintro e W2 ⟨rfl, hu2, u2, hR2, hA2⟩)
      | (go_at_call 15; refine KT.out.mono ?_; rintro e W1 ⟨rfl, hu1, hT1⟩; obtain ⟨-, m1, m2⟩ := ac_parts (hu1.range hnF HR0.out)))
    go_ret
    rw [HE.out] at hR2 hA2
    refine ⟨rfl, _, u2, ?_, Both.turn (HB0.out.table hu1).1 hT1 (HB0.out.table hu1).2 hu2 hR2 hA2 ?_⟩
    · simp only [List.length_cons, List.length_eraseIdx_of_lt hil]; omega
    · have := HB0.out.fits
      simp only [List.length_cons, List.length_eraseIdx_of_lt hil]; omega
  · have KT := Lib.hid (get_no W0 w.heap.size t room c m E HB0.out.tab a.key hno)
    have KR := Lib.hid (rget_no W0 w.heap.size r room u (thL E) HB0.out.ref a.key (thL_none hno))
    clear hno
    go_enter Try.func12, Try.ntmps12
    go_upto_region 1 with fail
    show Code.wp _ _ _ _ (W.alloc (.cells (acR.cells a).toArray 24))
    rw [← hW0]
    clear hW0
    go_wp2_with (first
      | (go_at_call 24; refine KR.out.mono ?_; rintro e W2 ⟨rfl, hb2⟩)
      | (go_at_call 15; refine KT.out.mono ?_; rintro e w' ⟨rfl, rfl⟩))
    go_ret
    exact ⟨rfl, E, u, by omega, HB0.out.below' hb2⟩

end Go.Proofs.Ytnfcpknepnifgaa
