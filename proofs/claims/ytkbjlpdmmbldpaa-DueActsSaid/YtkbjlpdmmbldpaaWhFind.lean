/- A tick's digits; where its numbers lie: the walks. -/
import Derived.Test.YtkbjlpdmmbldpaaRecM
import Derived.Test.YtkbjlpdmmbldpaaWhLaw
import Derived.Test.YtkbjlpdmmbldpaaMix
import Derived.Test.YtkbjlpdmmbldpaaRound
import Derived.Test.YtkbjlpdmmbldpaaCel
import Derived.Test.YtkbjlpdmmbldpaaMap
import Derived.Laws.Bits64b
import Derived.Deep.CutRange
import Derived.Deep.DeepCutAuto
import Derived.Deep.CutBlock
import Derived.Laws.BitsLemmas
set_option linter.unusedVariables false
set_option linter.unusedSimpArgs false
namespace Go.Proofs.Ytkbjlpdmmbldpaa
open Go.RowKit

theorem and15 (n : Int) : bits BinOp.and IntKind.i64 n 15 = n % 16 := by
  have h15 : (BitVec.ofInt 64 15).toNat = 2 ^ 4 - 1 := by decide
  have key : (BitVec.ofInt 64 n &&& BitVec.ofInt 64 15).toNat = (n % ((2 ^ 64 : Nat) : Int)).toNat % 2 ^ 4 := by
    rw [BitVec.toNat_and, BitVec.toNat_ofInt, h15, Nat.and_two_pow_sub_one_eq_mod]
  show IntKind.i64.wrap ((BitVec.ofInt 64 n &&& BitVec.ofInt 64 15).toNat : Nat) = n % 16
  rw [key, IntKind.wrap_i64]
  omega
theorem dig0 (a : Nat) : bits BinOp.and IntKind.i64 (wrap64 (a : Int)) 15 = ((dig a 0 : Nat) : Int) := by
  rw [and15]; unfold wrap64 dig; rw [Nat.pow_zero, Nat.div_one]; omega
theorem dig1 (a : Nat) : bits BinOp.and IntKind.i64 ((a : Int) / 16) 15 = ((dig a 1 : Nat) : Int) := by
  rw [and15]; unfold dig; rw [show 16 ^ 1 = 16 from rfl]; omega
theorem dig2 (a : Nat) : bits BinOp.and IntKind.i64 ((a : Int) / 256) 15 = ((dig a 2 : Nat) : Int) := by
  rw [and15]; unfold dig; rw [show 16 ^ 2 = 256 from rfl]; omega
theorem dig3 (a : Nat) : bits BinOp.and IntKind.i64 ((a : Int) / 4096) 15 = ((dig a 3 : Nat) : Int) := by
  rw [and15]; unfold dig; rw [show 16 ^ 3 = 4096 from rfl]; omega
theorem xorHigh {a b : Nat} (ha : a < 18446744073709551616) (hb : b < 18446744073709551616) : bits BinOp.xor IntKind.u64 (a : Int) (b : Int) / 65536 = 0 ↔ a / 65536 = b / 65536 := by
  rw [bits_xor_u64_nat a b ha hb]
  have e : (a ^^^ b) / 65536 = (a / 65536) ^^^ (b / 65536) := by
    have := Nat.shiftRight_xor_distrib (a := a) (b := b) (i := 16)
    simpa [Nat.shiftRight_eq_div_pow] using this
  have e2 : (((a ^^^ b : Nat) : Int) / 65536) = (((a / 65536) ^^^ (b / 65536) : Nat) : Int) := by rw [← e]; simp
  rw [e2]
  constructor
  · intro h
    have h1 : (a / 65536) ^^^ (b / 65536) = 0 := by omega
    have h2 := congrArg (fun z => z ^^^ (b / 65536)) h1
    simpa [Nat.xor_assoc] using h2
  · intro h
    rw [h, Nat.xor_self]; rfl

set_option maxHeartbeats 1000000 in
theorem digit_any (w : World) (a l : Nat) (ha : a < 18446744073709551616) (hl : l < 4) :
    Calls Try.prog 61 #[.int .u64 a, .int .i64 l] w fun e w' => e = .returned (.int .i64 (dig a l : Nat)) ∧ w = w' := by
  obtain rfl | rfl | rfl | rfl : l = 0 ∨ l = 1 ∨ l = 2 ∨ l = 3 := by omega
  · have HD := Lib.hid (dig0 a)
    go_enter Try.func61, Try.ntmps61
    go_wp2_with fail
    go_ret
    exact ⟨by rw [← HD.out]; rfl, rfl⟩
  · have HD := Lib.hid (dig1 a)
    go_enter Try.func61, Try.ntmps61
    go_wp2_with fail
    go_ret
    exact ⟨by rw [← HD.out]; rfl, rfl⟩
  · have HD := Lib.hid (dig2 a)
    go_enter Try.func61, Try.ntmps61
    go_wp2_with fail
    go_ret
    exact ⟨by rw [← HD.out]; rfl, rfl⟩
  · have HD := Lib.hid (dig3 a)
    go_enter Try.func61, Try.ntmps61
    go_wp2_with fail
    go_ret
    exact ⟨by rw [← HD.out]; rfl, rfl⟩

/-- A place: its level, its slot. -/
def spotV (s : Nat) : Value := .agg #[.int .i64 ((s / 16 : Nat) : Int), .int .i64 ((s % 16 : Nat) : Int)]
def spotC (s : Nat) : List Value := [.int .i64 ((s / 16 : Nat) : Int), .int .i64 ((s % 16 : Nat) : Int)]
theorem spotRow (l : List Value) (h : l.length = 2) : (Try.prog.info? 85).map (·.size) = some l.length := by rw [h]; kernel_rfl
theorem results_cell_mid {P : Program} {fn : Func} {p : Tmp} {ty : TypeId} (h : fn.results = #[.cell p ty]) (tmps : Array Value) (w : World) (g : Nat) (cs : List Value) (d : TypeDesc)
    (hp : tmps.getD p undef = .pointer (some ⟨g, 0, none⟩)) (hg : w.rangeAt g 0 cs) (hu : P.underlying ty = some d) (hd : d.isRow = true) (hi : (P.info? ty).map (·.size) = some cs.length) :
    (results fn tmps).run P w = .ok (.agg cs.toArray) w := by
  have hp' : tmps[p]?.getD undef = .pointer (some ⟨g, 0, none⟩) := by simpa using hp
  simp [results, h, hp', asAddr, run_loadVar_mid w g 0 ty cs d hg hu hd hi]
def FindP (w : World) (now a : Nat) (e : Ending) (w' : World) : Prop := e = .returned (spotV (spotN now a)) ∧ Below w.heap.size w w'
theorem spot_range {w : World} {b : Nat} {x y : Value} (h : w.heap[b]? = some (.cells #[x, y] 85 (0, 0))) : w.rangeAt b 0 [x, y] := fun j v hv => by
  rw [cell_of_row w b (0 + j) _ _ (0, 0) h]
  simpa using hv
theorem below_row {n : Nat} {w0 w : World} {g : Nat} (h : Below n w0 w) (hg : n ≤ g) (cs : Array Value) : Below n w0 (w.setRow g cs) :=
  h.trans ⟨rfl, rfl, rfl, by simp [World.setRow], fun i hi => by
    unfold World.setRow
    simp only [Array.getElem?_modify]
    rw [if_neg (by omega)]⟩
theorem setRow_heap {w : World} {g : Nat} {cs0 : Array Value} {t : TypeId} {fr : Nat × Nat} (cs : Array Value) (h : w.heap[g]? = some (.cells cs0 t fr)) : (w.setRow g cs).heap[g]? = some (.cells cs t fr) := by
  unfold World.setRow
  simp only [Array.getElem?_modify, if_pos, h, Option.map_some]
theorem spotOne (x y : Int) : (#[.int .i64 x, .int .i64 y] : Array Value).all (·.oneCell') = true := by simp [Value.oneCell']

set_option maxRecDepth 100000 in
set_option maxHeartbeats 2000000 in
theorem find_any (w : World) (p now a : Nat) (ha : a < 18446744073709551616) (hnow : now < 18446744073709551616) (hc : w.cell? ⟨p, 0, none⟩ = some (.int .u64 now)) :
    Calls Try.prog 66 #[.pointer (some ⟨p, 0, none⟩), .int .u64 a] w (FindP w now a) := by
  have hn := heap_alloc_new w (.cells #[.int .i64 0, .int .i64 0] 85)
  have hb : Below w.heap.size w (w.alloc (.cells #[.int .i64 0, .int .i64 0] 85)) := (Below.refl _ _).alloc (Nat.le_refl _) _
  obtain ⟨W1, hW1⟩ : ∃ W1, W1 = w.alloc (.cells #[.int .i64 0, .int .i64 0] 85) := ⟨_, rfl⟩
  rw [← hW1] at hn hb
  have hc1 := below_cell hb hc
  have HN := Lib.hid hn
  have HB := Lib.hid hb
  have FIN := Lib.hid (fun (s : Nat) (hs : spotN now a = s) W (hw : Below W1.heap.size W1 W) => (show FindP w now a (.returned (.agg #[.int .i64 ((s / 16 : Nat) : Int), .int .i64 ((s % 16 : Nat) : Int)])) (W.setRow w.heap.size #[.int .i64 ((s / 16 : Nat) : Int), .int .i64 ((s % 16 : Nat) : Int)]) from ⟨by rw [hs]; rfl, below_row (bthen' hb hw) (Nat.le_refl _) _⟩))
  clear hn hc
  by_cases h1 : a ≤ now
  · have hs := Lib.hid (spotN_late.2 h1)
    go_enter Try.func66, Try.ntmps66
    go_upto_block 0 with fail
    show Code.wp _ _ _ _ (w.alloc (.cells #[.int .i64 0, .int .i64 0] 85))
    rw [← hW1]
    clear hW1 hb
    go_wp2_with (refine wpList_store_row rfl 85 _ _ rfl w.heap.size #[.int .i64 4, .int .i64 0] rfl rfl 85 #[.int .i64 0, .int .i64 0] HN.out (spotRow _ rfl) rfl (spotOne 4 0) ?_)
    exact bodyPost_ret (results_cell_mid rfl _ _ w.heap.size [.int .i64 4, .int .i64 0] _ rfl (spot_range (setRow_heap _ HN.out)) Try.underlying85 rfl (spotRow _ rfl)) rfl (FIN.out 64 hs.out W1 (Below.refl _ _))
  have h1' : now < a := by omega
  by_cases h2 : a / 65536 = now / 65536
  · have hx := (xorHigh ha hnow).2 h2
    have H2 := Lib.hid h2
    clear h2
    have HD := Lib.hid (fun (W : World) (x l : Nat) (hx : x < 18446744073709551616) (hl : l < 4) => digit_any W x l hx hl)
    go_enter Try.func66, Try.ntmps66
    go_upto_block 0 with fail
    show Code.wp _ _ _ _ (w.alloc (.cells #[.int .i64 0, .int .i64 0] 85))
    rw [← hW1]
    clear hW1 hb
    go_upto_block 1 with fail
    go_wp2_with fail
    go_loopw [5] (fun i wr => ∃ l : Nat, l ≤ 3 ∧ i = .int .i64 l ∧ Below W1.heap.size W1 wr ∧ Hid (∀ j, l < j → j ≤ 3 → dig a j = dig now j)) (fun i _ => (intOf i).toNat)
    case atStart => exact ⟨3, by omega, rfl, Below.refl _ _, Lib.hid (fun j h1 h2 => by omega)⟩
    case round =>
      obtain ⟨l, hl, rfl, hW, HE⟩ := hrel
      have HW := Lib.hid hW
      have hnr := kept hW HN.out
      by_cases h0 : 0 < l
      · have hcr := below_cell hW hc1
        have d1 := fun (z : Mix.InS (fun z => Below wr.heap.size wr z)) => below_cell z.h hcr
        have hneS : Nonempty (Mix.InS (fun z => Below wr.heap.size wr z)) := ⟨⟨wr, Below.refl _ _⟩⟩
        clear hcr hW
        go_upto_region 8 with fail
        refine Mix.wp_region_mix [([0, 1, 3, 4, 5, 6, 7], 2), ([], 8)] [9] (fun w' => ∃ x : Mix.InS (fun z => Below wr.heap.size wr z), w' = x.w) (by kernel_rfl) (by kernel_rfl) (Mix.inS_mk (Below.refl _ _).drew) ?_
        have hbd : Below wr.heap.size wr wr.drew := (Below.refl _ _).drew
        generalize wr.drew = W4 at hbd ⊢
        refine Mix.stages_cons ?_
        simp only [Mix.pickL, List.getElem?_cons_zero, List.getElem?_cons_succ]
        repeat (first
          | go_big_quiet_skip
          | (go_big_quiet_want; (go_big_quiet_op; go_big_quiet_on)))
        refine wpQuiet_nil ?_
        go_wp2_with (go_at_call 61; refine (HD.out W4 a l ha (by omega)).mono ?_; rintro e w' ⟨rfl, rfl⟩)
        refine Mix.onward_in hbd ?_
        refine Mix.stages_cons ?_
        simp only [Mix.pickL, List.getElem?_cons_zero, List.getElem?_cons_succ]
        refine wpQuiet_nil ?_
        go_wp2_with (go_at_call 61; refine (HD.out W4 now l hnow (by omega)).mono ?_; rintro e w' ⟨rfl, rfl⟩)
        refine Mix.onward_in hbd ?_
        refine Mix.stages_nil ?_
        simp only [Mix.pickL, List.getElem?_cons_zero, List.getElem?_cons_succ]
        repeat (first
          | go_big_quiet_skip
          | (go_big_quiet_want; (go_big_quiet_op; go_big_quiet_on)))
        refine wpQuiet_nil ?_
        clear d1 hneS
        by_cases hd : dig a l = dig now l
        · have hdb : (((dig a l : Nat) : Int) != ((dig now l : Nat) : Int)) = false := by simp [hd]
          have HE2 := Lib.hid (show ∀ j, l - 1 < j → j ≤ 3 → dig a j = dig now j from fun j h1 h2 => by
            by_cases hj : j = l
            · rw [hj]; exact hd
            · exact HE.out j (by omega) h2)
          clear hd
          go_wp2_with fail
          go_roundw
          case rel => exact ⟨l - 1, by omega, by congr 1; omega, bthen' HW.out hbd, HE2⟩
          case measure => simp [intOf]; omega
        · have hdb : (((dig a l : Nat) : Int) != ((dig now l : Nat) : Int)) = true := by simp; omega
          have hs := Lib.hid (show spotN now a = 16 * l + dig a l from by
            unfold spotN
            rw [if_neg (show ¬ a ≤ now by omega), if_neg (show ¬ (a / 65536 ≠ now / 65536) from fun h => h H2.out)]
            have e3 := HE.out 3
            have e2 := HE.out 2
            have e1 := HE.out 1
            obtain rfl | rfl | rfl : l = 1 ∨ l = 2 ∨ l = 3 := by omega
            · rw [if_neg (show ¬ (dig a 3 ≠ dig now 3) from fun h => h (e3 (by decide) (by decide))), if_neg (show ¬ (dig a 2 ≠ dig now 2) from fun h => h (e2 (by decide) (by decide))), if_pos hd]
            · rw [if_neg (show ¬ (dig a 3 ≠ dig now 3) from fun h => h (e3 (by decide) (by decide))), if_pos hd]
            · rw [if_pos hd])
          have hm := dig_lt a l
          have hv1 : (((16 * l + dig a l) / 16 : Nat) : Int) = (l : Int) := by omega
          have hv2 : (((16 * l + dig a l) % 16 : Nat) : Int) = ((dig a l : Nat) : Int) := by omega
          have fin := FIN.out (16 * l + dig a l) hs.out W4 (bthen' HW.out hbd)
          rw [hv1, hv2] at fin
          have FINA := Lib.hid fin
          have HN4 := Lib.hid (kept hbd hnr)
          clear hd hv1 hv2 fin
          go_wp2_with (first
            | (go_at_call 61; refine (HD.out W4 a l ha (by omega)).mono ?_; rintro e w' ⟨rfl, rfl⟩)
            | (refine wpList_store_row rfl 85 _ _ rfl w.heap.size #[.int .i64 (l : Int), .int .i64 ((dig a l : Nat) : Int)] rfl rfl 85 #[.int .i64 0, .int .i64 0] HN4.out (spotRow _ rfl) rfl (spotOne _ _) ?_))
          exact bodyPost_ret (results_cell_mid rfl _ _ w.heap.size [.int .i64 (l : Int), .int .i64 ((dig a l : Nat) : Int)] _ rfl (spot_range (setRow_heap _ HN4.out)) Try.underlying85 rfl (spotRow _ rfl)) rfl FINA.out
      · obtain rfl : l = 0 := by omega
        have hs := Lib.hid (show spotN now a = dig a 0 from by
          unfold spotN
          rw [if_neg (show ¬ a ≤ now by omega), if_neg (show ¬ (a / 65536 ≠ now / 65536) from fun h => h H2.out)]
          rw [if_neg (show ¬ (dig a 3 ≠ dig now 3) from fun h => h (HE.out 3 (by decide) (by decide))), if_neg (show ¬ (dig a 2 ≠ dig now 2) from fun h => h (HE.out 2 (by decide) (by decide))), if_neg (show ¬ (dig a 1 ≠ dig now 1) from fun h => h (HE.out 1 (by decide) (by decide)))])
        have hm := dig_lt a 0
        have hv1 : ((dig a 0 / 16 : Nat) : Int) = 0 := by omega
        have hv2 : ((dig a 0 % 16 : Nat) : Int) = ((dig a 0 : Nat) : Int) := by omega
        have fin := FIN.out (dig a 0) hs.out wr HW.out
        rw [hv1, hv2] at fin
        have FINA := Lib.hid fin
        have HN4 := Lib.hid hnr
        clear hv1 hv2 fin hnr
        go_wp2_with (first
          | (go_at_call 61; refine (HD.out wr a 0 ha (by omega)).mono ?_; rintro e w' ⟨rfl, rfl⟩)
          | (refine wpList_store_row rfl 85 _ _ rfl w.heap.size #[.int .i64 0, .int .i64 ((dig a 0 : Nat) : Int)] rfl rfl 85 #[.int .i64 0, .int .i64 0] HN4.out (spotRow _ rfl) rfl (spotOne _ _) ?_))
        exact bodyPost_ret (results_cell_mid rfl _ _ w.heap.size [.int .i64 0, .int .i64 ((dig a 0 : Nat) : Int)] _ rfl (spot_range (setRow_heap _ HN4.out)) Try.underlying85 rfl (spotRow _ rfl)) rfl FINA.out
  · have hx : ¬ bits BinOp.xor IntKind.u64 (a : Int) (now : Int) / 65536 = 0 := fun h => h2 ((xorHigh ha hnow).1 h)
    have hs := Lib.hid (spotN_far.2 ⟨h1', h2⟩)
    clear h2
    go_enter Try.func66, Try.ntmps66
    go_upto_block 0 with fail
    show Code.wp _ _ _ _ (w.alloc (.cells #[.int .i64 0, .int .i64 0] 85))
    rw [← hW1]
    clear hW1 hb
    go_wp2_with (refine wpList_store_row rfl 85 _ _ rfl w.heap.size #[.int .i64 5, .int .i64 0] rfl rfl 85 #[.int .i64 0, .int .i64 0] HN.out (spotRow _ rfl) rfl (spotOne 5 0) ?_)
    exact bodyPost_ret (results_cell_mid rfl _ _ w.heap.size [.int .i64 5, .int .i64 0] _ rfl (spot_range (setRow_heap _ HN.out)) Try.underlying85 rfl (spotRow _ rfl)) rfl (FIN.out 80 hs.out W1 (Below.refl _ _))
end Go.Proofs.Ytkbjlpdmmbldpaa
