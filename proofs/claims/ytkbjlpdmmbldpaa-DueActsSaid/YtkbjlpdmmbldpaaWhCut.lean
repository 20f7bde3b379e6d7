/- slices.DeleteFunc at ints, with the closure of Turn: what is due at a tick. -/
import Derived.Test.YtkbjlpdmmbldpaaWhMove
import Derived.Deep.LoopGhost
set_option linter.unusedVariables false
set_option linter.unusedSimpArgs false
set_option maxRecDepth 100000
namespace Go.Proofs.Ytkbjlpdmmbldpaa
open Go.RowKit

theorem cell_of_cur {w : World} {g i : Nat} {cur : Array Value} {T : TypeId} (h : w.heap[g]? = some (.cells cur T (0, 0))) : w.cell? ⟨g, i, none⟩ = cur[i]? := cell_of_row w g i cur T (0, 0) h
theorem free_of_cur {w : World} {g i : Nat} {cur : Array Value} {T : TypeId} (h : w.heap[g]? = some (.cells cur T (0, 0))) : w.frozen? ⟨g, i, none⟩ = false := by
  unfold World.frozen?
  simp only [h]
  simp
theorem upd_setRow (w : World) (g : Nat) (cs : Array Value) : Upd [g] w (w.setRow g cs) :=
  ⟨rfl, rfl, rfl, by simp [World.setRow], fun i _ hn => by
    unfold World.setRow
    simp only [Array.getElem?_modify]
    rw [if_neg (by intro e; exact hn (by simp [e]))]⟩
theorem wl_clear {ops : Array Oper} {rest : List Oper} {o : Oper} {a : Act} {w : World} {Q : Exit → Act → World → Prop} (hgd : o.guard = none) (x : Operand)
    (ho : o.op = .call { callee := .builtin .clear, args := #[x], argTypes := #[74] }) (g i n c : Nat) (hn : 0 < n) (hx : a.eval x = .slice (some ⟨g, i, none⟩) n c) (cur : Array Value) (hg : w.heap[g]? = some (.cells cur 3 (0, 0))) (hsz : i + n ≤ cur.size)
    (h : wpList Try.prog ops Q rest (a.put o.dst (.tuple #[])) (w.setRow g (cur.toList.take i ++ List.replicate n (Value.int .i64 0) ++ cur.toList.drop (i + n)).toArray)) : wpList Try.prog ops Q (o :: rest) a w := by
  refine wpList_plain hgd fun K' hK' => ?_
  have hz : (zeroValue 3).run Try.prog w = .ok (.int .i64 0) w := Try.zeroValue3 w
  have hs := run_storeCells_at (P := Try.prog) g i 3 (List.replicate n (Value.int .i64 0)) 0 cur w hg (by simpa using hsz) (by intro v hv; rw [List.eq_of_mem_replicate hv]; rfl)
  have hzc : (Builtin.zeroCells (Value.int .i64 0).cells n).toList = List.replicate n (Value.int .i64 0) := by
    unfold Builtin.zeroCells
    apply List.ext_getElem?
    intro j
    simp [Value.cells, List.getElem?_replicate]
    by_cases hj : j < n
    · simp [hj, Nat.mod_one]
    · simp [hj]
  have hr : (Builtin.clear_ #[74] o.type #[.slice (some ⟨g, i, none⟩) n c]).run Try.prog w = .ok (.tuple #[]) (w.setRow g (cur.toList.take i ++ List.replicate n (Value.int .i64 0) ++ cur.toList.drop (i + n)).toArray) := by
    obtain ⟨n, rfl⟩ : ∃ m, n = m + 1 := ⟨n - 1, by omega⟩
    simp only [Nat.add_zero, List.length_replicate] at hs
    simp [Builtin.clear_, Sem.run_bind, run_underlying Try.underlying74, hz, hzc, hs]
  unfold Oper.wp
  simp only [execOp, ho, resolve, invoke, builtin, hx, Sem.run_bind, Sem.run_pure, Result.andThen_ok, List.map_toArray, List.map_cons, List.map_nil, hr]
  exact hK' _ _ h

def keepF (f : Int → Bool) (L : List Int) : List Int := L.filter fun n => !f n
theorem keepF_none {f : Int → Bool} {L : List Int} (h : ∀ n ∈ L, f n = false) : keepF f L = L := by
  unfold keepF
  rw [List.filter_eq_self]
  exact fun n hn => by rw [h n hn]; rfl
theorem keepF_no {f : Int → Bool} {x : Int} {L : List Int} (h : f x = false) : keepF f (L ++ [x]) = keepF f L ++ [x] := by
  unfold keepF
  rw [List.filter_append, List.filter_cons_of_pos (by simp [h])]
  rfl
theorem keepF_yes {f : Int → Bool} {x : Int} {L : List Int} (h : f x = true) : keepF f (L ++ [x]) = keepF f L := by
  unfold keepF
  rw [List.filter_append, List.filter_cons_of_neg (by simp [h])]
  simp
theorem keepF_len (f : Int → Bool) (L : List Int) : (keepF f L).length ≤ L.length := List.length_filter_le _ _
theorem keepF_take {f : Int → Bool} {L : List Int} {k : Nat} (h : ∀ j n, j < k → L[j]? = some n → f n = false) : keepF f (L.take k) = L.take k := keepF_none (fun n hn => by
  obtain ⟨j, hj⟩ := List.mem_iff_getElem?.1 hn
  by_cases hjk : j < k
  · rw [List.getElem?_take_of_lt hjk] at hj; exact h j n hjk hj
  · rw [List.getElem?_eq_none (by rw [List.length_take]; omega)] at hj; cases hj)
/-- The closure tells f, in whatever world where but g has not turned. -/
def Tells1 (w : World) (g q q6 : Nat) (f : Int → Bool) : Prop := ∀ W x, Upd [g] w W → Calls Try.prog 43 #[.int .i64 x, .pointer (some ⟨q, 0, none⟩), .pointer (some ⟨q6, 0, none⟩)] W fun e w' => e = .returned (.bool (f x)) ∧ Below W.heap.size W w'
def IdxP (w : World) (L : List Int) (f : Int → Bool) (e : Ending) (w' : World) : Prop := Below w.heap.size w w' ∧ ((∃ k : Nat, e = .returned (.int .i64 (k : Int)) ∧ (∃ n, L[k]? = some n ∧ f n = true) ∧ ∀ j n, j < k → L[j]? = some n → f n = false) ∨ e = .returned (.int .i64 (-1)) ∧ ∀ n ∈ L, f n = false)
set_option maxHeartbeats 2000000 in
theorem idxF_any (w : World) (v : Value) (L : List Int) (g q q6 : Nat) (f : Int → Bool) (hv : Reads intR w v L) (ht : Tells1 w g q q6 f) (hbig : L.length ≤ 100000) :
    Calls Try.prog 62 #[v, .func (.func 43) #[] #[.pointer (some ⟨q, 0, none⟩), .pointer (some ⟨q6, 0, none⟩)]] w (IdxP w L f) := by
  obtain ⟨av, cv, rfl⟩ := hv.form
  have HV := Lib.hid hv
  have HT := Lib.hid ht
  clear hv ht
  go_enter Try.func62, Try.ntmps62
  go_wp2_with fail
  go_loopw [5, 8] (fun _ i wr => Below w.heap.size w wr ∧ ∃ k : Nat, k ≤ L.length ∧ i = .int .i64 k ∧ ∀ j n, j < k → L[j]? = some n → f n = false) (fun _ i _ => L.length - (intOf i).toNat)
  case atStart => exact ⟨Below.refl _ _, 0, by omega, rfl, by intro j n hj; omega⟩
  case round =>
    obtain ⟨hW, k, hk, rfl, hall⟩ := hrel
    have HA := Lib.hid hall
    clear hall
    by_cases hlt : k < L.length
    · obtain ⟨n, hn⟩ : ∃ n, L[k]? = some n := ⟨_, List.getElem?_eq_getElem hlt⟩
      obtain ⟨b, off, rfl, hr⟩ := (HV.out.below hW).at hn
      have hc := int_cell hr
      have HN := Lib.hid hn
      have KW := HT.out wr n (Upd.ofBelow _ hW)
      clear hr hn
      cases hx : f n with
      | true =>
        rw [hx] at KW
        have KW := Lib.hid KW
        have HX := Lib.hid hx
        clear hx
        go_wp2_with (go_at_call 43; refine KW.out.mono ?_; rintro e W2 ⟨rfl, hb2⟩)
        go_ret
        exact ⟨bthen' hW hb2, .inl ⟨k, rfl, ⟨n, HN.out, HX.out⟩, HA.out⟩⟩
      | false =>
        rw [hx] at KW
        have KW := Lib.hid KW
        have HX := Lib.hid hx
        clear hx
        go_wp2_with (go_at_call 43; refine KW.out.mono ?_; rintro e W2 ⟨rfl, hb2⟩)
        go_roundw
        case rel => exact ⟨bthen' hW hb2, k + 1, by omega, by go_num, fun j m hj hm => by
          by_cases hjk : j = k
          · subst hjk
            rw [HN.out] at hm
            cases hm
            exact HX.out
          · exact HA.out j m (by omega) hm⟩
        case measure => simp [intOf]; omega
    · obtain rfl : k = L.length := by omega
      go_wp2_with fail
      go_ret
      refine ⟨hW, .inr ⟨rfl, fun n hn => ?_⟩⟩
      obtain ⟨j, hj⟩ := List.mem_iff_getElem?.1 hn
      exact HA.out j n (List.getElem?_eq_some_iff.1 hj).1 hj
/-- What is known of the list's block in the midst of the loop. -/
structure DelW (f : Int → Bool) (L : List Int) (g cap : Nat) (w wr : World) (j : Nat) (cur : Array Value) : Prop where
  upd : Upd [g] w wr
  heap : wr.heap[g]? = some (.cells cur 3 (0, 0))
  size : cur.size = cap
  head : cur.toList.take (keepF f (L.take j)).length = (keepF f (L.take j)).map (.int .i64)
  tail : ∀ k x, j ≤ k → L[k]? = some x → cur[k]? = some (.int .i64 x)
  less : (keepF f (L.take j)).length < j
theorem DelW.later {f : Int → Bool} {L : List Int} {g cap : Nat} {w wr w' : World} {j : Nat} {cur : Array Value} (h : DelW f L g cap w wr j cur) (hb : Below wr.heap.size wr w') : DelW f L g cap w w' j cur :=
  ⟨h.upd.trans (Upd.ofBelow _ hb), kept hb h.heap, h.size, h.head, h.tail, h.less⟩
theorem DelW.skip {f : Int → Bool} {L : List Int} {g cap : Nat} {w wr : World} {j : Nat} {cur : Array Value} (h : DelW f L g cap w wr j cur) {x : Int} (hx : L[j]? = some x) (hf : f x = true) : DelW f L g cap w wr (j + 1) cur := by
  have e : keepF f (L.take (j + 1)) = keepF f (L.take j) := by rw [← take_snoc hx, keepF_yes hf]
  exact ⟨h.upd, h.heap, h.size, by rw [e]; exact h.head, fun k x hk => h.tail k x (by omega), by rw [e]; have := h.less; omega⟩
theorem DelW.put {f : Int → Bool} {L : List Int} {g cap : Nat} {w wr : World} {j : Nat} {cur : Array Value} (h : DelW f L g cap w wr j cur) {x : Int} (hx : L[j]? = some x) (hne : f x = false) (hL : L.length ≤ cap) :
    DelW f L g cap w (wr.setCell ⟨g, (keepF f (L.take j)).length, none⟩ (.int .i64 x)) (j + 1) (cur.setIfInBounds (keepF f (L.take j)).length (.int .i64 x)) := by
  have e : keepF f (L.take (j + 1)) = keepF f (L.take j) ++ [x] := by rw [← take_snoc hx, keepF_no hne]
  have hj := (List.getElem?_eq_some_iff.1 hx).1
  have hless := h.less
  have hsz := h.size
  refine ⟨h.upd.setCell (by simp) _, heap_setCell_row h.heap _, by simp [h.size], ?_, fun k y hk hy => ?_, by rw [e]; simp; omega⟩
  · rw [e, List.length_append, List.map_append, Array.toList_setIfInBounds]
    have hh := h.head
    generalize keepF f (L.take j) = M at *
    simp only [List.length_singleton, List.map_cons, List.map_nil]
    have hlt2 : M.length < cur.toList.length := by have e9 : cur.toList.length = cur.size := Array.length_toList; omega
    rw [List.take_add_one, List.take_set_of_le (Nat.le_refl _), hh, List.getElem?_set_self hlt2]
    rfl
  · rw [Array.getElem?_setIfInBounds_ne (by omega)]
    exact h.tail k y (by omega) hy
def DelF (w : World) (B : Nat) (v : Value) (f : Int → Bool) (L : List Int) (e : Ending) (w' : World) : Prop := ∃ v', e = .returned v' ∧ Owns intR B w' v' (keepF f L) ∧ ∃ F, (∀ g ∈ F, v.ownBlock = some g) ∧ Upd F w w'
set_option maxHeartbeats 4000000 in
theorem delF_any (w : World) (v : Value) (L : List Int) (q q6 B : Nat) (f : Int → Bool) (hv : Owns intR B w v L) (ht0 : ∀ g, v.ownBlock = some g → Tells1 w g q q6 f) (g0 : Nat) (hg0 : Tells1 w g0 q q6 f) (hbig : L.length ≤ 100000) :
    Calls Try.prog 41 #[v, .func (.func 43) #[] #[.pointer (some ⟨q, 0, none⟩), .pointer (some ⟨q6, 0, none⟩)]] w (DelF w B v f L) := by
  have hO := hv
  obtain ⟨av, cv, rfl⟩ := hv.form
  by_cases hno : ∀ n ∈ L, f n = false
  · have hT : ∃ g, Tells1 w g q q6 f := ⟨g0, hg0⟩
    obtain ⟨g, hT⟩ := hT
    have KI := Lib.hid ((idxF_any w _ L g q q6 f (hv.lts intOk) hT hbig).mono (fun e w' h => (show e = .returned (.int .i64 (-1)) ∧ Below w.heap.size w w' from by
      obtain ⟨hb, ⟨k, -, ⟨n, hn, hf⟩, -⟩ | ⟨he, -⟩⟩ := h
      · rw [hno n (List.mem_of_getElem? hn)] at hf; cases hf
      · exact ⟨he, hb⟩)))
    have HB := Lib.hid (keepF_none hno)
    have HO := Lib.hid hO
    clear hno hv hO ht0 hT hg0
    go_enter Try.func41, Try.ntmps41
    go_wp2_with (go_at_call 62; refine KI.out.mono ?_; rintro e W1 ⟨rfl, hb1⟩)
    go_ret
    exact ⟨_, rfl, by rw [HB.out]; exact HO.out.below hb1, [], by simp, Upd.ofBelow _ hb1⟩
  · rcases hv.2 with ⟨-, h0⟩ | ⟨g, cap, cur, e1, hB, hg, hlen, hmax, hsz, ht⟩
    · exact absurd (fun n hn => by rw [List.eq_nil_of_length_eq_zero h0] at hn; simp at hn) hno
    · simp only [Value.slice.injEq, true_and] at e1
      obtain ⟨rfl, rfl⟩ := e1
      have hT := ht0 g rfl
      have KI := Lib.hid ((idxF_any w _ L g q q6 f (hv.lts intOk) hT hbig).mono (fun e w' h => (show Below w.heap.size w w' ∧ ∃ k : Nat, e = .returned (.int .i64 (k : Int)) ∧ (∃ n, L[k]? = some n ∧ f n = true) ∧ ∀ j n, j < k → L[j]? = some n → f n = false from by
        obtain ⟨hb, h9 | ⟨-, h9⟩⟩ := h
        · exact ⟨hb, h9⟩
        · exact absurd h9 hno)))
      have HT := Lib.hid hT
      have hsz' : cur.size = cv := by simpa [intR] using hsz
      have ht' : cur.toList.take L.length = L.map (.int .i64) := by rw [int_flat] at ht; simpa [intR] using ht
      have hcur : ∀ k x, L[k]? = some x → cur[k]? = some (Value.int .i64 x) := fun k x hk => by
        have hkl := (List.getElem?_eq_some_iff.1 hk).1
        have h1 : (cur.toList.take L.length)[k]? = some (Value.int .i64 x) := by rw [ht', List.getElem?_map, hk]; rfl
        rw [List.getElem?_take_of_lt hkl] at h1
        simpa using h1
      have H0 := Lib.hid (fun (k : Nat) (n : Int) (hk : L[k]? = some n) (hf : f n = true) (hbef : ∀ j n, j < k → L[j]? = some n → f n = false) W (hb : Below w.heap.size w W) => (show DelW f L g cv w W (k + 1) cur ∧ (keepF f (L.take (k + 1))).length = k from by
        have e : keepF f (L.take (k + 1)) = L.take k := by rw [← take_snoc hk, keepF_yes hf, keepF_take hbef]
        have hkl := (List.getElem?_eq_some_iff.1 hk).1
        have hl : (L.take k).length = k := by rw [List.length_take]; omega
        refine ⟨⟨Upd.ofBelow _ hb, kept hb hg, hsz', ?_, fun j x _ hx => hcur j x hx, by rw [e, hl]; omega⟩, by rw [e, hl]⟩
        rw [e, hl, List.map_take, ← ht', List.take_take, Nat.min_eq_left (by omega)]))
      have HL := Lib.hid hlen
      have HM := Lib.hid hmax
      clear hno hv hO hT ht0 hg0 hg ht ht' hcur hsz hsz' hlen hmax
      go_enter Try.func41, Try.ntmps41
      go_upto_block 0 with (go_at_call 62; refine KI.out.mono ?_; rintro e W1 ⟨hb1, k, rfl, ⟨n1, hk, hf1⟩, hbef⟩; have hk1 : ((k : Int) == -1) = false := by rw [beq_eq_false_iff_ne]; omega)
      obtain ⟨hD, hkk⟩ := H0.out k n1 hk hf1 hbef W1 hb1
      have hkl := (List.getElem?_eq_some_iff.1 hk).1
      have HD := Lib.hid hD
      have HKK := Lib.hid hkk
      clear hk hbef hD hkk hf1
      go_wp2_with fail
      go_loopw [5, 6, 7] (fun i j _ wr => ∃ (p : Nat) (cu : Array Value), p ≤ L.length ∧ i = .int .i64 ((keepF f (L.take p)).length : Nat) ∧ j = .int .i64 (p : Nat) ∧ DelW f L g cv w wr p cu) (fun _ j _ _ => L.length - (intOf j).toNat)
      case atStart => exact ⟨k + 1, cur, by omega, by rw [HKK.out], by rw [IntWalk.wrap64_in _ (by omega)]; rfl, HD.out⟩
      case round =>
        clear HD HKK H0 KI
        obtain ⟨p, cu, hp, rfl, rfl, hD⟩ := hrel
        have HD := Lib.hid hD
        have hless := hD.less
        have hheap := hD.heap
        have hsz := hD.size
        by_cases hlt : p < L.length
        · obtain ⟨x, hx⟩ : ∃ x, L[p]? = some x := ⟨_, List.getElem?_eq_getElem hlt⟩
          have hc : wr.cell? ⟨g, p, none⟩ = some (.int .i64 x) := by rw [cell_of_cur hheap]; exact hD.tail p x (Nat.le_refl _) hx
          have KW := HT.out wr x hD.upd
          have HX := Lib.hid hx
          cases hxi : f x with
          | true =>
            rw [hxi] at KW
            have KW := Lib.hid KW
            have HD2 := Lib.hid (HD.out.skip HX.out hxi)
            have hL2 := Lib.hid (show (keepF f (L.take (p + 1))).length = (keepF f (L.take p)).length from by rw [← take_snoc HX.out, keepF_yes hxi])
            generalize (keepF f (L.take p)).length = i at hless hL2 ⊢
            clear hD hx hheap hxi
            go_wp2_with (go_at_call 43; refine KW.out.mono ?_; rintro e W8 ⟨rfl, hb8⟩)
            go_roundw
            case rel => exact ⟨p + 1, cu, by omega, by rw [hL2.out], by go_num, HD2.out.later hb8⟩
            case measure => simp [intOf]; omega
          | false =>
            rw [hxi] at KW
            have KW := Lib.hid KW
            have HXI := Lib.hid hxi
            have hL2 := Lib.hid (show (keepF f (L.take (p + 1))).length = (keepF f (L.take p)).length + 1 from by rw [← take_snoc HX.out, keepF_no hxi]; simp)
            have hlc := HL.out
            clear hD hx hheap hxi
            go_upto_region 9 with (go_at_call 43; refine KW.out.mono ?_; rintro e W8 ⟨rfl, hb8⟩)
            have HD8 := Lib.hid (HD.out.later hb8)
            have hheap8 := HD8.out.heap
            have HD2 := Lib.hid (HD8.out.put HX.out HXI.out HL.out)
            have cw : W8.cell? ⟨g, (keepF f (L.take p)).length, none⟩ = some (cu[(keepF f (L.take p)).length]'(by omega)) := by rw [cell_of_cur hheap8, Array.getElem?_eq_getElem]
            have fw : W8.frozen? ⟨g, (keepF f (L.take p)).length, none⟩ = false := free_of_cur hheap8
            generalize cu[(keepF f (L.take p)).length]'(by omega) = old at cw
            generalize (keepF f (L.take p)).length = i at hless hL2 cw fw HD2 ⊢
            clear hheap8 HD8
            go_wp2_with fail
            go_roundw
            case rel => exact ⟨p + 1, _, by omega, by rw [hL2.out]; go_num, by go_num, HD2.out⟩
            case measure => simp [intOf]; omega
        · obtain rfl : p = L.length := by omega
          have hhead := hD.head
          have hlc := HL.out
          rw [List.take_length] at hless hhead ⊢
          have HU := Lib.hid hD.upd
          have HH := Lib.hid hhead
          clear hD HD hhead
          obtain ⟨i, hi⟩ : ∃ i, i = (keepF f L).length := ⟨_, rfl⟩
          rw [← hi] at hless ⊢
          have HI := Lib.hid hi
          clear hi
          have hci : ¬ cv = i := by omega
          go_wp2_with (refine wl_clear rfl _ rfl g i (L.length - i) (cv - i) (by omega) rfl cu hheap (by omega) ?_)
          go_ret
          have hhd := HH.out
          have hcs : cu.toList.length = cv := by have : cu.toList.length = cu.size := Array.length_toList; omega
          refine ⟨_, rfl, ⟨recs_length intOk _, .inr ⟨g, cv, _, by rw [← HI.out]; rfl, hB, setRow_heap _ hheap, by rw [← HI.out]; omega, HM.out, ?_, ?_⟩⟩, [g], by simp [Value.ownBlock], HU.out.trans (upd_setRow _ _ _)⟩
          · simp [intR]; omega
          · rw [int_flat, ← hhd, ← HI.out]
            simp only [intR, Nat.mul_one]
            rw [List.take_append_of_le_length (by rw [List.length_take]; omega), List.take_take, Nat.min_self]
end Go.Proofs.Ytkbjlpdmmbldpaa
