/- slices.DeleteFunc at ints: all but one number; ops.without. -/
import Derived.Test.YtddmajgadaooaaaDelF
import Derived.Deep.LoopGhost
import Derived.Deep.CutRange
import Derived.Deep.DeepCutAuto
import Derived.Deep.CutBlock
set_option linter.unusedVariables false
namespace Go.Proofs.Ytddmajgadaooaaa
open Go.RowKit

def but (id : Int) (L : List Int) : List Int := L.filter fun n => decide (n ≠ id)
theorem but_none {id : Int} {L : List Int} (h : ∀ n ∈ L, n ≠ id) : but id L = L := by
  unfold but
  rw [List.filter_eq_self]
  exact fun n hn => decide_eq_true (h n hn)
theorem but_snoc_no {id x : Int} {L : List Int} (h : x ≠ id) : but id (L ++ [x]) = but id L ++ [x] := by
  unfold but
  rw [List.filter_append, List.filter_cons_of_pos (by simp [h])]
  rfl
theorem but_snoc_yes {id : Int} {L : List Int} : but id (L ++ [id]) = but id L := by
  unfold but
  rw [List.filter_append, List.filter_cons_of_neg (by simp)]
  simp
theorem but_len (id : Int) (L : List Int) : (but id L).length ≤ L.length := List.length_filter_le _ _
theorem but_take_none {id : Int} {L : List Int} {k : Nat} (h : ∀ j n, j < k → L[j]? = some n → n ≠ id) : but id (L.take k) = L.take k := but_none (fun n hn => by
  obtain ⟨j, hj⟩ := List.mem_iff_getElem?.1 hn
  by_cases hjk : j < k
  · rw [List.getElem?_take_of_lt hjk] at hj; exact h j n hjk hj
  · rw [List.getElem?_eq_none (by rw [List.length_take]; omega)] at hj; cases hj)

/-- What is known of the list's block in the midst of the loop. -/
structure DelW (id : Int) (L : List Int) (g cap B : Nat) (w wr : World) (j : Nat) (cur : Array Value) : Prop where
  upd : Upd [g] w wr
  heap : wr.heap[g]? = some (.cells cur 3 (0, 0))
  size : cur.size = cap
  head : cur.toList.take (but id (L.take j)).length = (but id (L.take j)).map (.int .i64)
  tail : ∀ k x, j ≤ k → L[k]? = some x → cur[k]? = some (.int .i64 x)
  less : (but id (L.take j)).length < j
theorem DelW.skip {id : Int} {L : List Int} {g cap B : Nat} {w wr : World} {j : Nat} {cur : Array Value} (h : DelW id L g cap B w wr j cur) (hx : L[j]? = some id) : DelW id L g cap B w wr (j + 1) cur := by
  have e : but id (L.take (j + 1)) = but id (L.take j) := by rw [← take_snoc hx, but_snoc_yes]
  exact ⟨h.upd, h.heap, h.size, by rw [e]; exact h.head, fun k x hk => h.tail k x (by omega), by rw [e]; have := h.less; omega⟩
theorem DelW.put {id : Int} {L : List Int} {g cap B : Nat} {w wr : World} {j : Nat} {cur : Array Value} (h : DelW id L g cap B w wr j cur) {x : Int} (hx : L[j]? = some x) (hne : x ≠ id) (hL : L.length ≤ cap) :
    DelW id L g cap B w (wr.setCell ⟨g, (but id (L.take j)).length, none⟩ (.int .i64 x)) (j + 1) (cur.setIfInBounds (but id (L.take j)).length (.int .i64 x)) := by
  have e : but id (L.take (j + 1)) = but id (L.take j) ++ [x] := by rw [← take_snoc hx, but_snoc_no hne]
  have hj := (List.getElem?_eq_some_iff.1 hx).1
  have hless := h.less
  have hsz := h.size
  refine ⟨h.upd.setCell (by simp) _, heap_setCell_row h.heap _, by simp [h.size], ?_, fun k y hk hy => ?_, by rw [e]; simp; omega⟩
  · rw [e, List.length_append, List.map_append, Array.toList_setIfInBounds]
    have hh := h.head
    generalize but id (L.take j) = M at *
    simp only [List.length_singleton, List.map_cons, List.map_nil]
    have hlt2 : M.length < cur.toList.length := by have e9 : cur.toList.length = cur.size := Array.length_toList; omega
    rw [List.take_add_one, List.take_set_of_le (Nat.le_refl _), hh, List.getElem?_set_self hlt2]
    rfl
  · rw [Array.getElem?_setIfInBounds_ne (by omega)]
    exact h.tail k y (by omega) hy

theorem idxF_no (w : World) (v : Value) (L : List Int) (id : Int) (q : Nat) (hv : Reads intR w v L) (hq : w.cell? ⟨q, 0, none⟩ = some (.int .i64 id)) (hbig : L.length ≤ 100000) (hno : ∀ n ∈ L, n ≠ id) :
    Calls Try.prog 40 #[v, .func (.func 37) #[] #[.pointer (some ⟨q, 0, none⟩)]] w fun e w' => e = .returned (.int .i64 (-1)) ∧ w = w' :=
  (idxF_any w v L id q hv hq hbig).mono fun e w' ⟨⟨k, h⟩, hw⟩ => ⟨by
    rcases h with ⟨-, h1, -⟩ | ⟨h1, -⟩
    · exact absurd rfl (hno id (List.mem_of_getElem? h1))
    · exact h1, hw⟩
theorem idxF_yes (w : World) (v : Value) (L : List Int) (id : Int) (q : Nat) (hv : Reads intR w v L) (hq : w.cell? ⟨q, 0, none⟩ = some (.int .i64 id)) (hbig : L.length ≤ 100000) (hyes : ¬ ∀ n ∈ L, n ≠ id) :
    Calls Try.prog 40 #[v, .func (.func 37) #[] #[.pointer (some ⟨q, 0, none⟩)]] w fun e w' => (∃ k : Nat, e = .returned (.int .i64 k) ∧ L[k]? = some id ∧ ∀ j n, j < k → L[j]? = some n → n ≠ id) ∧ w = w' :=
  (idxF_any w v L id q hv hq hbig).mono fun e w' ⟨⟨k, h⟩, hw⟩ => ⟨by
    rcases h with h1 | ⟨-, h1⟩
    · exact ⟨k, h1⟩
    · exact absurd h1 hyes, hw⟩

theorem upd_setRow (w : World) (g : Nat) (cs : Array Value) : Upd [g] w (w.setRow g cs) :=
  ⟨rfl, rfl, rfl, by simp [World.setRow], fun i _ hn => setRow_other _ _ _ _ (by simpa using hn)⟩
def DelF (w : World) (B : Nat) (v : Value) (id : Int) (L : List Int) (e : Ending) (w' : World) : Prop := ∃ v', e = .returned v' ∧ Owns intR B w' v' (but id L) ∧ ∃ F, (∀ g ∈ F, v.ownBlock = some g) ∧ Upd F w w'
set_option maxRecDepth 100000 in
set_option maxHeartbeats 2000000 in
theorem delF_any (w : World) (v : Value) (L : List Int) (id : Int) (q B : Nat) (hv : Owns intR B w v L) (hq : w.cell? ⟨q, 0, none⟩ = some (.int .i64 id)) (hqg : ∀ g, v.ownBlock = some g → g ≠ q) (hbig : L.length ≤ 100000) :
    Calls Try.prog 35 #[v, .func (.func 37) #[] #[.pointer (some ⟨q, 0, none⟩)]] w (DelF w B v id L) := by
  have hO := hv
  obtain ⟨av, cv, rfl⟩ := hv.form
  by_cases hno : ∀ n ∈ L, n ≠ id
  · have KI := Lib.hid (idxF_no w _ L id q (hv.lts intOk) hq hbig hno)
    have HB := Lib.hid (but_none hno)
    have HO := Lib.hid hO
    clear hno hv hO hq hqg
    go_enter Try.func35, Try.ntmps35
    go_wp2_with (go_at_call 40; refine KI.out.mono ?_; rintro e w' ⟨rfl, rfl⟩)
    go_ret
    exact ⟨_, rfl, by rw [HB.out]; exact HO.out, [], by simp, Upd.refl _ _⟩
  · have KI := Lib.hid (idxF_yes w _ L id q (hv.lts intOk) hq hbig hno)
    rcases hv.2 with ⟨-, h0⟩ | ⟨g, cap, cur, e1, hB, hg, hlen, hmax, hsz, ht⟩
    · exact absurd (fun n hn => by rw [List.eq_nil_of_length_eq_zero h0] at hn; simp at hn) hno
    · simp only [Value.slice.injEq, true_and] at e1
      obtain ⟨rfl, rfl⟩ := e1
      have hsz' : cur.size = cv := by simpa [intR] using hsz
      have ht' : cur.toList.take L.length = L.map (.int .i64) := by rw [int_flat] at ht; simpa [intR] using ht
      have hgq : g ≠ q := hqg g rfl
      have HQ := Lib.hid hq
      have hcur : ∀ k x, L[k]? = some x → cur[k]? = some (Value.int .i64 x) := fun k x hk => by
        have hkl := (List.getElem?_eq_some_iff.1 hk).1
        have h1 : (cur.toList.take L.length)[k]? = some (Value.int .i64 x) := by rw [ht', List.getElem?_map, hk]; rfl
        rw [List.getElem?_take_of_lt hkl] at h1
        simpa using h1
      have H0 := Lib.hid (fun (k : Nat) (hk : L[k]? = some id) (hbef : ∀ j n, j < k → L[j]? = some n → n ≠ id) => (show DelW id L g cv B w w (k + 1) cur ∧ (but id (L.take (k + 1))).length = k from by
        have e : but id (L.take (k + 1)) = L.take k := by rw [← take_snoc hk, but_snoc_yes, but_take_none hbef]
        have hkl := (List.getElem?_eq_some_iff.1 hk).1
        have hl : (L.take k).length = k := by rw [List.length_take]; omega
        refine ⟨⟨Upd.refl _ _, hg, hsz', ?_, fun j x _ hx => hcur j x hx, by rw [e, hl]; omega⟩, by rw [e, hl]⟩
        rw [e, hl, List.map_take, ← ht', List.take_take, Nat.min_eq_left (by omega)]))
      have HL := Lib.hid hlen
      have HM := Lib.hid hmax
      clear hno hv hO hq hqg hg ht ht' hcur hsz hsz' hlen hmax
      go_enter Try.func35, Try.ntmps35
      go_upto_block 0 with (go_at_call 40; refine KI.out.mono ?_; rintro e w' ⟨⟨k, rfl, hk, hbef⟩, rfl⟩; have hk1 : ((k : Int) == -1) = false := by rw [beq_eq_false_iff_ne]; omega)
      obtain ⟨hD, hkk⟩ := H0.out k hk hbef
      have hkl := (List.getElem?_eq_some_iff.1 hk).1
      have HD := Lib.hid hD
      have HKK := Lib.hid hkk
      clear hk hbef hD hkk
      go_wp2_with fail
      go_loopw [5, 6, 7] (fun i j _ wr => ∃ (p : Nat) (cu : Array Value), p ≤ L.length ∧ i = .int .i64 ((but id (L.take p)).length : Nat) ∧ j = .int .i64 (p : Nat) ∧ DelW id L g cv B w wr p cu) (fun _ j _ _ => L.length - (intOf j).toNat)
      case atStart => exact ⟨k + 1, cur, by omega, by rw [HKK.out], by rw [IntWalk.wrap64_in _ (by omega)]; rfl, HD.out⟩
      case round =>
        clear HD HKK H0 KI
        obtain ⟨p, cu, hp, rfl, rfl, hD⟩ := hrel
        have HD := Lib.hid hD
        have hless := hD.less
        have hheap := hD.heap
        have hsz := hD.size
        by_cases hlt : p < L.length
        · obtain ⟨x, hx⟩ : ∃ x, L[p]? = some x := ⟨_, List.getElem?_eq_getElem hlt⟩
          have hc : wr.cell? ⟨g, p, none⟩ = some (.int .i64 x) := by rw [cell_of_cur hheap]; exact hD.tail p x (Nat.le_refl _) hx
          have hqc : wr.cell? ⟨q, 0, none⟩ = some (.int .i64 id) := hD.upd.cell (by simpa using Ne.symm hgq) HQ.out
          have HX := Lib.hid hx
          by_cases hxi : x = id
          · have KW := fun W h => wo1_any W x id q h
            rw [decide_eq_true hxi] at KW
            have KW := Lib.hid KW
            subst hxi
            have HD2 := Lib.hid (HD.out.skip HX.out)
            have hL2 := Lib.hid (show (but x (L.take (p + 1))).length = (but x (L.take p)).length from by rw [← take_snoc HX.out, but_snoc_yes])
            generalize (but x (L.take p)).length = i at hless hL2 ⊢
            clear hD hx hheap
            go_wp2_with (go_at_call 37; refine (KW.out wr hqc).mono ?_; rintro e w' ⟨rfl, rfl⟩)
            go_roundw
            case rel => exact ⟨p + 1, cu, by omega, by rw [hL2.out], by go_num, HD2.out⟩
            case measure => simp [intOf]; omega
          · have KW := fun W h => wo1_any W x id q h
            rw [decide_eq_false hxi] at KW
            have KW := Lib.hid KW
            have HD2 := Lib.hid (HD.out.put HX.out hxi HL.out)
            have hL2 := Lib.hid (show (but id (L.take (p + 1))).length = (but id (L.take p)).length + 1 from by rw [← take_snoc HX.out, but_snoc_no hxi]; simp)
            have hlc := HL.out
            have cw : wr.cell? ⟨g, (but id (L.take p)).length, none⟩ = some (cu[(but id (L.take p)).length]'(by omega)) := by rw [cell_of_cur hheap, Array.getElem?_eq_getElem]
            have fw : wr.frozen? ⟨g, (but id (L.take p)).length, none⟩ = false := free_of_cur hheap
            generalize cu[(but id (L.take p)).length]'(by omega) = old at cw
            generalize (but id (L.take p)).length = i at hless hL2 cw fw HD2 ⊢
            clear hD hx hheap hxi
            go_wp2_with (go_at_call 37; refine (KW.out wr hqc).mono ?_; rintro e w' ⟨rfl, rfl⟩)
            go_roundw
            case rel => exact ⟨p + 1, _, by omega, by rw [hL2.out]; go_num, by go_num, HD2.out⟩
            case measure => simp [intOf]; omega
        · obtain rfl : p = L.length := by omega
          have hhead := hD.head
          have hlc := HL.out
          rw [List.take_length] at hless hhead ⊢
          have HU := Lib.hid hD.upd
          have HH := Lib.hid hhead
          have hbl := Lib.hid (show (but id L).length = (but id L).length from rfl)
          clear hD HD hhead
          obtain ⟨i, hi⟩ : ∃ i, i = (but id L).length := ⟨_, rfl⟩
          rw [← hi] at hless ⊢
          have HI := Lib.hid hi
          clear hi
          have hci : ¬ cv = i := by omega
          go_wp2_with (refine wl_clear rfl _ rfl g i (L.length - i) (cv - i) (by omega) rfl cu hheap (by omega) ?_)
          clear hbl
          go_ret
          have hhd := HH.out
          have hcs : cu.toList.length = cv := by have : cu.toList.length = cu.size := Array.length_toList; omega
          refine ⟨_, rfl, ⟨recs_length intOk _, .inr ⟨g, cv, _, by rw [← HI.out]; rfl, hB, setRow_heap _ _ _ _ _ _ hheap, by rw [← HI.out]; omega, HM.out, ?_, ?_⟩⟩, [g], by simp [Value.ownBlock], HU.out.trans (upd_setRow _ _ _)⟩
          · simp [intR]; omega
          · rw [int_flat, ← hhd, ← HI.out]
            simp only [intR, Nat.mul_one]
            rw [List.take_append_of_le_length (by rw [List.length_take]; omega), List.take_take, Nat.min_self]

set_option maxRecDepth 100000 in
set_option maxHeartbeats 1000000 in
theorem without_any (w : World) (v : Value) (L : List Int) (id : Int) (hv : Reads intR w v L) (hbig : L.length ≤ 100000) :
    Calls Try.prog 28 #[v, .int .i64 id] w (GivesI w (but id L)) := by
  obtain ⟨av, cv, rfl⟩ := hv.form
  have hmf : ∀ (fn : Fn) (first cap : Array Value) (w : World), (Instr.makeFunc fn first cap).run Try.prog w = .ok (.func fn first cap) w := fun _ _ _ _ => rfl
  have hb1 : Below w.heap.size w (w.alloc (.cells #[.int .i64 id] 3)) := (Below.refl _ _).alloc (Nat.le_refl _) _
  have hn1 : (w.alloc (.cells #[.int .i64 id] 3)).heap[w.heap.size]? = some (.cells #[.int .i64 id] 3 (0, 0)) := heap_alloc_new _ _
  have HV := Lib.hid (hv.below hb1)
  have HB1 := Lib.hid hb1
  have HN1 := Lib.hid hn1
  have hs1 : (w.alloc (.cells #[.int .i64 id] 3)).heap.size = w.heap.size + 1 := by simp
  obtain ⟨W1, hW1⟩ : ∃ W1, W1 = w.alloc (.cells #[.int .i64 id] 3) := ⟨_, rfl⟩
  rw [← hW1] at HV HB1 HN1 hs1
  have KC := Lib.hid (clone_any W1 _ L HV.out hbig)
  clear hv hb1 hn1
  go_enter Try.func28, Try.ntmps28
  go_upto_region 1 with fail
  show Code.wp _ _ _ _ (w.alloc (.cells #[.int .i64 id] 3))
  rw [← hW1]
  clear hW1
  go_wp2_with (first
    | (go_at_call 36; refine KC.out.mono ?_; rintro e W2 ⟨v2, rfl, hb2, hO2⟩)
    | (go_at_call 35; refine (delF_any W2 v2 L id w.heap.size W1.heap.size hO2 (cell_of_one (kept hb2 HN1.out)) (fun g hg => by have := (hO2.lt g hg).1; omega) hbig).mono ?_; rintro e W3 ⟨v3, rfl, hO3, F, hF, hU⟩))
  obtain ⟨a3, c3, rfl⟩ := hO3.form
  go_ret
  exact ⟨_, rfl, hU.toBelow (bthen' HB1.out hb2) (bthen' HB1.out hb2).size (fun i hi => by have := (hO2.lt i (hF i hi)).1; omega), hO3.mono (by omega)⟩
end Go.Proofs.Ytddmajgadaooaaa
