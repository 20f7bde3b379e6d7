/- The contracts of text's Name and of the reference's (as in TextWalks, for dumps that hold these alone). -/
import Derived.Test.YtogajmbkjojdhaaTextKinds
import Derived.Lib.OthersKept
import Derived.BigCall
import Derived.Deep.AppendLies
set_option linter.unusedVariables false
set_option maxRecDepth 100000
namespace Go.Proofs.Ytogajmbkjojdhaa
open Go.RowKit

theorem rune_step (s : ByteArray) (pos : Nat) (h : pos < s.size) : runesL (s.data.toList.drop pos) = (Utf8.decode s pos).1 :: runesL (s.data.toList.drop (pos + (Utf8.decode s pos).2)) ∧
    1 ≤ (Utf8.decode s pos).2 ∧ pos + (Utf8.decode s pos).2 ≤ s.size ∧ (Utf8.decode s pos).1 ≤ 1114111 := by
  have hne : s.data.toList.drop pos ≠ [] := by
    intro e
    have := congrArg List.length e
    rw [List.length_drop] at this
    have h2 : s.data.toList.length = s.size := rfl
    rw [h2] at this
    simp at this
    omega
  have hw := decL_width _ hne
  have hv := decL_valid (s.data.toList.drop pos)
  have hd := decode_drop s pos
  rw [List.length_drop] at hw
  have h2 : s.data.toList.length = s.size := rfl
  rw [h2] at hw
  rw [hd]
  refine ⟨?_, hw.1, by omega, by omega⟩
  rw [runesL_cons _ hne, List.drop_drop]
theorem rune_end (s : ByteArray) (pos : Nat) (h : ¬ pos < s.size) : runesL (s.data.toList.drop pos) = [] := by
  rw [List.drop_of_length_le (by have h2 : s.data.toList.length = s.size := rfl; rw [h2]; omega)]
  rfl

theorem iter_first (w : World) (s : ByteArray) : (w.iter s 0).heap[w.heap.size]? = some (.stringIter s 0) := World.iter_heap w s 0

/-- What is left to be asked of a name behind k good runes. -/
def NameRest (l rest : List UInt8) (k : Nat) : Prop := nameB l = ((runesL rest).all goodB && decide (1 ≤ k + (runesL rest).length) && decide (k + (runesL rest).length ≤ 16))
theorem NameRest.start (l : List UInt8) : NameRest l (l.drop 0) 0 := by unfold NameRest nameB; simp
theorem NameRest.good {l rest rest' : List UInt8} {k r : Nat} (h : NameRest l rest k) (he : runesL rest = r :: runesL rest') (hg : goodB r = true) : NameRest l rest' (k + 1) := by
  unfold NameRest at *
  rw [h, he, List.all_cons, hg, Bool.true_and, List.length_cons]
  have e : k + ((runesL rest').length + 1) = k + 1 + (runesL rest').length := by omega
  rw [e]
theorem NameRest.bad {l rest rest' : List UInt8} {k r : Nat} (h : NameRest l rest k) (he : runesL rest = r :: runesL rest') (hg : goodB r = false) : nameB l = false := by
  unfold NameRest at *
  rw [h, he, List.all_cons, hg]; simp
theorem NameRest.done {l rest : List UInt8} {k : Nat} (h : NameRest l rest k) (he : runesL rest = []) : nameB l = (decide (1 ≤ k) && decide (k ≤ 16)) := by
  unfold NameRest at *
  rw [h, he]; simp
theorem good_tests {r : Nat} (h : goodB r = true) : (kindv (r : Int) == 0) = false ∧ (kindv (r : Int) == 4) = false := by
  simp [goodB] at h
  simp; omega
theorem kind_range (r : Int) : 0 ≤ kindv r ∧ kindv r ≤ 4 := by
  unfold kindv
  repeat' split
  all_goals omega
theorem good_lt {r : Nat} (h : goodB r = true) : 1 ≤ kindv (r : Int) ∧ kindv (r : Int) ≤ 3 := by
  simp [goodB] at h
  exact h
theorem bad_lt {r : Nat} (h : goodB r = false) : kindv (r : Int) < 1 ∨ (1 ≤ kindv (r : Int) ∧ 3 < kindv (r : Int)) := by
  have := kind_range r
  simp [goodB] at h
  omega
theorem bad_tests {r : Nat} (h : goodB r = false) : (kindv (r : Int) == 0) = true ∨ ((kindv (r : Int) == 0) = false ∧ (kindv (r : Int) == 4) = true) := by
  have := kind_range r
  simp [goodB] at h
  simp; omega

set_option maxRecDepth 100000 in
theorem name_any (w : World) (s : ByteArray) (hs : s.size ≤ 9223372036854775807) : Calls Try.prog 56 #[.string s] w fun e w' => e = .returned (.bool (nameB s.data.toList)) ∧ Below w.heap.size w w' := by
  go_enter Try.func56, Try.ntmps56
  go_wp2_with fail
  go_loopw [3] (fun v wr => ∃ pos k : Nat, v = .int .i64 k ∧ wr.heap[w.heap.size]? = some (.stringIter s pos) ∧ Below w.heap.size w wr ∧ NameRest s.data.toList (s.data.toList.drop pos) k ∧ k ≤ pos ∧ pos ≤ s.size) (fun _ wr => s.size - wr.iterPos w.heap.size)
  case atStart =>
    exact ⟨0, 0, rfl, iter_first w s, (Below.refl _ _).alloc (Nat.le_refl _) _, NameRest.start _, by omega, by omega⟩
  case round =>
    obtain ⟨pos, k, rfl, hit, hbw, hl, hk, hps⟩ := hrel
    have HB := Lib.hid hl
    clear hl
    by_cases hp : pos < s.size
    · have hnx : ∀ ty, (Instr.next (.pointer (some ⟨w.heap.size, 0, none⟩)) true ty).run Try.prog wr = _ := fun ty => Lib.run_next_any_at wr w.heap.size s pos ty hit hp
      obtain ⟨h1, h2, h3, h4⟩ := rune_step s pos hp
      have hit2 := Lib.iterAt_heap wr w.heap.size s pos (pos + (Utf8.decode s pos).2) hit
      have hbw2 := Lib.below_iterAt hbw (k := w.heap.size) (Nat.le_refl _) s (pos + (Utf8.decode s pos).2)
      have hsz : w.heap.size < (wr.iterAt w.heap.size s (pos + (Utf8.decode s pos).2)).heap.size := by rw [Lib.iterAt_size]; exact (Array.getElem?_eq_some_iff.1 hit).1
      have HI := Lib.hid hit2
      have HI0 := Lib.hid hit
      have H1 := Lib.hid h1
      clear h1 hit2 hit
      cases hg : goodB (Utf8.decode s pos).1 with
      | true =>
        have HN := Lib.hid (HB.out.good H1.out hg)
        obtain ⟨g1, g2⟩ := good_tests hg
        clear hg
        go_wp2_with (go_at_call 65; refine (kind_any _ _ (by omega) (by omega)).mono ?_; rintro e W1 ⟨rfl, hb1⟩)
        go_roundw
        case rel => exact ⟨pos + (Utf8.decode s pos).2, k + 1, by go_num, (hb1.block _ hsz).trans HI.out, bthen' hbw2 hb1, HN.out, by omega, h3⟩
        case measure =>
          have h5 := (hb1.block _ hsz).trans HI.out
          have h6 := HI0.out
          simp only [World.iterPos, h5, h6]
          omega
      | false =>
        have HN := Lib.hid (HB.out.bad H1.out hg)
        have hg2 := bad_tests hg
        clear hg
        rcases hg2 with g1 | ⟨g1, g2⟩
        · go_wp2_with (go_at_call 65; refine (kind_any _ _ (by omega) (by omega)).mono ?_; rintro e W1 ⟨rfl, hb1⟩)
          go_ret
          exact ⟨ret_bool HN.out.symm, bthen' hbw2 hb1⟩
        · go_wp2_with (go_at_call 65; refine (kind_any _ _ (by omega) (by omega)).mono ?_; rintro e W1 ⟨rfl, hb1⟩)
          go_ret
          exact ⟨ret_bool HN.out.symm, bthen' hbw2 hb1⟩
    · have hnx : ∀ ty, (Instr.next (.pointer (some ⟨w.heap.size, 0, none⟩)) true ty).run Try.prog wr = _ := fun ty => Lib.run_next_end_at wr w.heap.size s pos ty hit hp
      have HN := Lib.hid (HB.out.done (rune_end s pos hp))
      by_cases c1 : 1 ≤ k
      · by_cases c2 : k ≤ 16
        · have HV := Lib.hid (show nameB s.data.toList = true from by rw [HN.out]; simp [c1, c2])
          have c1i : (1 : Int) ≤ (k : Int) := by omega
          have c2i : decide ((k : Int) ≤ 16) = true := by simp; omega
          go_wp2_with fail
          go_ret
          exact ⟨ret_bool HV.out.symm, hbw⟩
        · have HV := Lib.hid (show nameB s.data.toList = false from by rw [HN.out]; simp [c2])
          have c1i : (1 : Int) ≤ (k : Int) := by omega
          have c2i : decide ((k : Int) ≤ 16) = false := by simp; omega
          go_wp2_with fail
          go_ret
          exact ⟨ret_bool HV.out.symm, hbw⟩
      · have HV := Lib.hid (show nameB s.data.toList = false from by rw [HN.out]; simp; omega)
        go_wp2_with fail
        go_ret
        exact ⟨ret_bool HV.out.symm, hbw⟩

/-! ### the reference's runes -/
def Own32 (B : Nat) (w : World) (v : Value) (rs : List Nat) : Prop := w.ownsRow B 21 1 v rs.length (rs.map fun (r : Nat) => Value.int .i32 (r : Int))
theorem Own32.form {B : Nat} {w : World} {v : Value} {L : List Nat} (h : Own32 B w v L) : ∃ a cap, v = .slice a L.length cap := by
  rcases h.2 with ⟨rfl, h0⟩ | ⟨g, cap, cur, rfl, hb, hg, hn, hm, hs, ht⟩
  · exact ⟨none, 0, by rw [h0]⟩
  · exact ⟨_, cap, rfl⟩
theorem Own32.upd {B : Nat} {w w' : World} {v : Value} {L : List Nat} (h : Own32 B w v L) (hb : ∀ k o, v.ownBlock = some k → w.heap[k]? = some o → w'.heap[k]? = some o) : Own32 B w' v L := by
  refine ⟨h.1, ?_⟩
  rcases h.2 with h0 | ⟨g, cap, cur, rfl, hb2, hg, hn, hm, hs, ht⟩
  · exact .inl h0
  · exact .inr ⟨g, cap, cur, rfl, hb2, hb g _ rfl hg, hn, hm, hs, ht⟩
theorem Own32.below {B : Nat} {w w' : World} {v : Value} {L : List Nat} (h : Own32 B w v L) (hb : Below w.heap.size w w') : Own32 B w' v L :=
  h.upd fun k o _ hk => by rw [hb.block k (Array.getElem?_eq_some_iff.1 hk).1, hk]
theorem Own32.lt {B : Nat} {w : World} {v : Value} {L : List Nat} (h : Own32 B w v L) : ∀ k, v.ownBlock = some k → B ≤ k ∧ ∃ cs T f, w.heap[k]? = some (.cells cs T f) := by
  intro k hk
  rcases h.2 with ⟨rfl, h0⟩ | ⟨g, cap, cur, rfl, hb, hg, hn, hm, hs, ht⟩
  · cases hk
  · simp [Value.ownBlock] at hk
    subst hk
    exact ⟨hb, _, _, _, hg⟩
theorem Own32.cell {B : Nat} {w : World} {a : Option Addr} {n cap : Nat} {L : List Nat} (h : Own32 B w (.slice a n cap) L) {k : Nat} {r : Nat} (hr : L[k]? = some r) : ∃ b, a = some ⟨b, 0, none⟩ ∧ w.cell? ⟨b, k, none⟩ = some (.int .i32 r) := by
  rcases h.2 with ⟨h1, h0⟩ | ⟨g, cap', cur, hv, hb, hg, hn, hm, hs, ht⟩
  · rw [List.eq_nil_of_length_eq_zero h0] at hr; simp at hr
  · simp only [Value.slice.injEq] at hv
    refine ⟨g, hv.1, ?_⟩
    rw [cell_of_row w g k cur _ (0, 0) hg]
    have hk : k < L.length := (List.getElem?_eq_some_iff.1 hr).1
    have e : (cur.toList.take (L.length * 1))[k]? = some (.int .i32 (r : Int)) := by rw [ht]; simp [hr]
    rw [List.getElem?_take_of_lt (by omega)] at e
    simpa using e

theorem wl_append_rune {ops : Array Oper} {rest : List Oper} {o : Oper} {a : Act} {w : World} {Q : Exit → Act → World → Prop} (hgd : o.guard = none) (s x : Operand)
    (ho : o.op = .call { callee := .builtin .append, args := #[s, x], argTypes := #[101, 101] }) (B : Nat) (v : Value) (L : List Nat) (hs : a.eval s = v) (hown : Own32 B w v L)
    (b c : Nat) (y : Nat) (hx : a.eval x = .slice (some ⟨b, 0, none⟩) 1 c) (hr : w.cell? ⟨b, 0, none⟩ = some (.int .i32 (y : Int))) (hlen : L.length < 9223372036854) (hB : B ≤ w.heap.size)
    (h : ∀ g cap w', Own32 B w' (.slice (some ⟨g, 0, none⟩) (L.length + 1) cap) (L ++ [y]) → w.grownBy w' v.ownBlock → wpList Try.prog ops Q rest (a.put o.dst (.slice (some ⟨g, 0, none⟩) (L.length + 1) cap)) w') : wpList Try.prog ops Q (o :: rest) a w := by
  obtain ⟨i, z, hi, hz, hs6, hby, hzs⟩ : ∃ i z, Try.prog.info? 21 = some i ∧ i.zero = some z ∧ i.size = 1 ∧ i.bytes = 4 ∧ z.cells.size = 1 := ⟨_, _, rfl, rfl, rfl, rfl, rfl⟩
  refine wpList_append_lies w hgd s x 101 ho B 21 i z 1 4 Try.underlying101 hi hz hs6 hby hzs (by omega) v L.length _ hs hown ⟨b, 0, none⟩ 1 c [.int .i32 (y : Int)] hx rfl
    (fun j u hu => ?_) (fun u hu => ?_) (by omega) (by simp only [maxLen]; omega) (by omega) hB _ rfl ?_
  · match j, hu with
    | 0, hu => simp at hu; subst hu; simpa [Addr.add] using hr
  · simp at hu; subst hu; rfl
  intro g cap w' hown' hg _ _
  refine h g cap w' ?_ hg
  show w'.ownsRow B 21 1 _ (L ++ [y]).length ((L ++ [y]).map _)
  rw [List.map_append, show (L ++ [y]).length = L.length + 1 by simp]
  exact hown'

set_option maxRecDepth 100000 in
set_option maxHeartbeats 1000000 in
theorem runes_any (w : World) (s : ByteArray) (hs : s.size ≤ 1000000000) : Calls Try.prog 66 #[.string s] w fun e w' => ∃ v, e = .returned v ∧ Below w.heap.size w w' ∧ Own32 w.heap.size w' v (runesL s.data.toList) := by
  go_enter Try.func66, Try.ntmps66
  go_wp2_with fail
  go_loopw [3] (fun v wr => ∃ (pos : Nat) (acc : List Nat), wr.heap[w.heap.size + 1]? = some (.stringIter s pos) ∧ Below w.heap.size w wr ∧ Own32 w.heap.size wr v acc ∧ runesL s.data.toList = acc ++ runesL (s.data.toList.drop pos) ∧ acc.length ≤ pos ∧ pos ≤ s.size) (fun _ wr => s.size - wr.iterPos (w.heap.size + 1))
  case atStart =>
    refine ⟨0, [], ?_, ((Below.refl _ _).alloc (Nat.le_refl _) _).alloc (by simp) _, ?_, rfl, by simp, by omega⟩
    · have := World.iter_heap (w.alloc (.cells #[] 21)) s 0
      simpa using this
    · have h0 : Own32 w.heap.size (w.alloc (.cells #[] 21)) (.slice (some ⟨w.heap.size, 0, none⟩) 0 0) [] := ⟨rfl, .inr ⟨w.heap.size, 0, #[], rfl, Nat.le_refl _, heap_alloc_new _ _, Nat.le_refl _, by simp [maxLen], rfl, rfl⟩⟩
      exact h0.below ((Below.refl _ _).alloc (Nat.le_refl _) _)
  case round =>
    obtain ⟨pos, acc, hit, hbw, hO, hl, hk, hps⟩ := hrel
    have HR := Lib.hid hl
    clear hl
    by_cases hp : pos < s.size
    · have hnx : ∀ ty, (Instr.next (.pointer (some ⟨w.heap.size + 1, 0, none⟩)) true ty).run Try.prog wr = _ := fun ty => Lib.run_next_any_at wr (w.heap.size + 1) s pos ty hit hp
      obtain ⟨h1, h2, h3, h4⟩ := rune_step s pos hp
      have hlt : w.heap.size + 1 < wr.heap.size := (Array.getElem?_eq_some_iff.1 hit).1
      have hit2 := Lib.iterAt_heap wr (w.heap.size + 1) s pos (pos + (Utf8.decode s pos).2) hit
      have hbw2 := Lib.below_iterAt hbw (k := w.heap.size + 1) (by omega) s (pos + (Utf8.decode s pos).2)
      have hO2 : Own32 w.heap.size (wr.iterAt (w.heap.size + 1) s (pos + (Utf8.decode s pos).2)) u3 acc := hO.upd fun k o hk ho => by
        rw [Lib.iterAt_other _ _ _ _ _ (fun e => by subst e; obtain ⟨_, cs, T, f, hc⟩ := hO.lt _ hk; rw [hit] at hc; cases hc)]; exact ho
      have hsz2 : (wr.iterAt (w.heap.size + 1) s (pos + (Utf8.decode s pos).2)).heap.size = wr.heap.size := Lib.iterAt_size _ _ _ _
      have HI := Lib.hid hit2
      have HI0 := Lib.hid hit
      have H1 := Lib.hid h1
      have HS2 := Lib.hid hsz2
      have hlt2 : wr.heap.size ≤ (wr.iterAt (w.heap.size + 1) s (pos + (Utf8.decode s pos).2)).heap.size := by omega
      clear h1 hit2 hit hsz2
      go_wp2_with (refine wl_append_rune rfl _ _ rfl w.heap.size u3 acc rfl (hO2.below ((Below.refl _ _).alloc (Nat.le_refl _) _)) (wr.iterAt (w.heap.size + 1) s (pos + (Utf8.decode s pos).2)).heap.size 1 (Utf8.decode s pos).1 rfl (by simp) (by omega) (by simp; omega) ?_; intro g cap W1 hO3 hg3)
      have hit3 : W1.heap[w.heap.size + 1]? = some (.stringIter s (pos + (Utf8.decode s pos).2)) := by
        rw [hg3.block _ (by have := HS2.out; simp; omega) (fun e => by obtain ⟨_, cs, T, f, hc⟩ := hO2.lt _ e.symm; rw [HI.out] at hc; cases hc)]
        rw [heap_alloc_old _ _ (by have := HS2.out; omega)]
        exact HI.out
      go_roundw
      case rel => exact ⟨pos + (Utf8.decode s pos).2, acc ++ [(Utf8.decode s pos).1], hit3, ((hbw2.alloc (by have := HS2.out; omega) _).grown hg3 (by have := HS2.out; simp; omega) (fun k hk => (hO2.lt k hk).1)), hO3, by rw [HR.out, H1.out]; simp, by simp; omega, h3⟩
      case measure =>
        have h6 := HI0.out
        simp only [World.iterPos, hit3, h6]
        omega
    · have hnx : ∀ ty, (Instr.next (.pointer (some ⟨w.heap.size + 1, 0, none⟩)) true ty).run Try.prog wr = _ := fun ty => Lib.run_next_end_at wr (w.heap.size + 1) s pos ty hit hp
      have HE := Lib.hid (rune_end s pos hp)
      go_wp2_with fail
      go_ret
      exact ⟨_, rfl, hbw, by rw [HR.out, HE.out, List.append_nil]; exact hO⟩

set_option maxRecDepth 100000 in
set_option maxHeartbeats 1000000 in
theorem refName_any (w : World) (s : ByteArray) (hs : s.size ≤ 9223372036854775807) : Calls Try.prog 60 #[.string s] w fun e w' => e = .returned (.bool (nameB s.data.toList)) ∧ Below w.heap.size w w' := by
  by_cases hbig : 100 < s.size
  · have HV := Lib.hid (show nameB s.data.toList = false from by
      cases hn : nameB s.data.toList with
      | false => rfl
      | true =>
        have h1 := name_le _ hn
        have h2 : s.data.toList.length = s.size := rfl
        omega)
    go_enter Try.func60, Try.ntmps60
    go_wp2_with fail
    go_ret
    exact ⟨ret_bool HV.out.symm, Below.refl _ _⟩
  · have hle := runesL_le _ s.data.toList (Nat.le_refl _)
    have h2 : s.data.toList.length = s.size := rfl
    rw [h2] at hle
    have h2' := Lib.hid h2
    clear h2
    go_enter Try.func60, Try.ntmps60
    go_wp2_with (go_at_call 66; refine (runes_any _ s (by omega)).mono ?_; rintro e W1 ⟨v, rfl, hb1, hO1⟩; obtain ⟨av, capv, rfl⟩ := hO1.form)
    go_loopw [4] (fun i wr => ∃ k : Nat, k ≤ (runesL s.data.toList).length ∧ i = .int .i64 k ∧ Below w.heap.size w wr ∧ Below W1.heap.size W1 wr ∧ nameB s.data.toList = (((runesL s.data.toList).drop k).all goodB && decide (1 ≤ (runesL s.data.toList).length) && decide ((runesL s.data.toList).length ≤ 16))) (fun i _ => (runesL s.data.toList).length - (intOf i).toNat)
    case atStart => exact ⟨0, by omega, rfl, hb1, Below.refl _ _, rfl⟩
    case round =>
      obtain ⟨k, hk, rfl, hW, hW1, hn⟩ := hrel
      have HN := Lib.hid hn
      clear hn
      by_cases hlt : k < (runesL s.data.toList).length
      · obtain ⟨r, hr⟩ : ∃ r, (runesL s.data.toList)[k]? = some r := ⟨_, List.getElem?_eq_getElem hlt⟩
        have hok : r ≤ 1114111 := by
          have := runesL_ok _ s.data.toList (Nat.le_refl _) r (List.mem_of_getElem? hr)
          unfold okRune at this; omega
        obtain ⟨b, rfl, hc⟩ := (hO1.below hW1).cell hr
        have hdr : (runesL s.data.toList).drop k = r :: (runesL s.data.toList).drop (k + 1) := by
          rw [List.drop_eq_getElem_cons hlt]
          rw [List.getElem?_eq_getElem hlt] at hr
          rw [Option.some.inj hr]
        have HD := Lib.hid hdr
        have HO := Lib.hid hO1
        clear hdr hr hO1
        cases hg : goodB r with
        | true =>
          have HG := Lib.hid hg
          obtain ⟨g1, g2⟩ := good_lt hg
          clear hg
          go_wp2_with (go_at_call 67; refine (refKind_any _ _).mono ?_; rintro e w' ⟨rfl, rfl⟩)
          go_roundw
          case rel => exact ⟨k + 1, by omega, by go_num, hW, hW1, by rw [HN.out, HD.out, List.all_cons, HG.out, Bool.true_and]⟩
          case measure => simp [intOf]; omega
        | false =>
          have HG := Lib.hid (show nameB s.data.toList = false from by rw [HN.out, HD.out, List.all_cons, hg]; simp)
          rcases bad_lt hg with g1 | ⟨g1, g2⟩
          all_goals
            clear hg
            go_wp2_with (go_at_call 67; refine (refKind_any _ _).mono ?_; rintro e w' ⟨rfl, rfl⟩)
            all_goals
              go_ret
              exact ⟨ret_bool HG.out.symm, hW⟩
      · have hkl : k = (runesL s.data.toList).length := by omega
        have HK := Lib.hid (show nameB s.data.toList = (decide (1 ≤ (runesL s.data.toList).length) && decide ((runesL s.data.toList).length ≤ 16)) from by rw [HN.out, hkl]; simp)
        by_cases c1 : 1 ≤ (runesL s.data.toList).length
        · by_cases c2 : (runesL s.data.toList).length ≤ 16
          · have HV := Lib.hid (show nameB s.data.toList = true from by rw [HK.out]; simp [c1, c2])
            have c1i : (1 : Int) ≤ ((runesL s.data.toList).length : Int) := by omega
            have c2i : decide (((runesL s.data.toList).length : Int) ≤ 16) = true := by simp; omega
            go_wp2_with fail
            go_ret
            exact ⟨ret_bool HV.out.symm, hW⟩
          · have HV := Lib.hid (show nameB s.data.toList = false from by rw [HK.out]; simp [c2])
            have c1i : (1 : Int) ≤ ((runesL s.data.toList).length : Int) := by omega
            have c2i : decide (((runesL s.data.toList).length : Int) ≤ 16) = false := by simp; omega
            go_wp2_with fail
            go_ret
            exact ⟨ret_bool HV.out.symm, hW⟩
        · have HV := Lib.hid (show nameB s.data.toList = false from by rw [HK.out]; simp; omega)
          go_wp2_with fail
          go_ret
          exact ⟨ret_bool HV.out.symm, hW⟩

end Go.Proofs.Ytogajmbkjojdhaa
