/- The document's table of histograms: Class. -/
import Derived.Test.YteifjlhkfmoljaaHRef
set_option linter.unusedVariables false
namespace Go.Proofs.Yteifjlhkfmoljaa
open Go.RowKit

open HistLaw in
theorem rqof_any (v : Hs) (p : Int) (w : World) : Calls Try.prog 25 #[hV v, .int .i64 p] w fun e w' => e = .returned (.tuple #[.int .u64 (ofv v p), .bool (plcOk v.1 p)]) ∧ Below w.heap.size w w' := by
  cases hp : plcOk v.1 p with
  | true =>
    refine (refOf_yes v.1 v.2 p hp w).mono ?_
    rintro e w' ⟨rfl, hb⟩
    exact ⟨by unfold ofv; rw [hp]; rfl, hb⟩
  | false =>
    refine (refOf_no v.1 v.2 p hp w).mono ?_
    rintro e w' ⟨rfl, hb⟩
    exact ⟨by unfold ofv; rw [hp]; rfl, hb⟩
theorem tgRow : (Try.prog.info? 39).map (·.size) = some 2 := by kernel_rfl

open HistLaw in
set_option maxRecDepth 100000 in
set_option maxHeartbeats 1500000 in
theorem rclass_any (w : World) (room : Int) (lv : Value) (R : List Rw) (k : ByteArray) (hv : Reads rowR w lv R) (hbig : R.length ≤ 100000) (v : Value) (L : List Int) (hl : Reads intR w v L) (hL : ∀ n ∈ L, inI n) (hbL : L.length ≤ 1000) (p : Int) :
    Calls Try.prog 26 #[tg room lv, .string k, v, .int .i64 p] w fun e w' => e = .returned (.int .i64 (clsV (look k R) L p)) ∧ Below w.heap.size w w' := by
  obtain ⟨av, cv, rfl⟩ := hl.form
  obtain ⟨W0, hW0⟩ : ∃ W0, W0 = w.alloc (.cells #[.int .i64 room, lv] 39) := ⟨_, rfl⟩
  have hb0 : Below w.heap.size w (w.alloc (.cells #[.int .i64 room, lv] 39)) := (Below.refl _ _).alloc (Nat.le_refl _) _
  have hr0 : (w.alloc (.cells #[.int .i64 room, lv] 39)).rangeAt w.heap.size 0 [.int .i64 room, lv] := fun j u hu => by
    rw [cell_of_row _ w.heap.size (0 + j) _ 39 (0, 0) (heap_alloc_new _ _)]
    simpa using hu
  rw [← hW0] at hb0 hr0
  have KH := Lib.hid (rhist_any W0 room lv R k (hv.below hb0) hbig)
  generalize look k R = z at KH ⊢
  have HR := Lib.hid hr0
  have HV := Lib.hid (hl.below hb0)
  have HL := Lib.hid hL
  have hxb := ofv_bd z p
  have KQ := fun W => rqof_any z p W
  clear hv hl hL hr0
  cases hp : plcOk z.1 p with
  | false =>
    have HC := Lib.hid (show clsV z L p = 0 from by unfold clsV; rw [hp]; rfl)
    simp only [hp] at KQ
    have KQ2 := Lib.hid KQ
    clear KQ hp
    go_enter Try.func26, Try.ntmps26
    go_upto_region 1 with fail
    show Code.wp _ _ _ _ (w.alloc (.cells #[.int .i64 room, lv] 39))
    rw [← hW0]
    clear hW0
    go_wp2_with (first
      | (refine wpList_load_mid rfl 39 _ rfl w.heap.size 0 rfl [.int .i64 room, lv] _ HR.out Try.underlying39 rfl tgRow ?_)
      | (go_at_call 24; refine KH.out.mono ?_; rintro e W1 ⟨rfl, hb1⟩)
      | (go_at_call 25; refine (KQ2.out _).mono ?_; rintro e W2 ⟨rfl, hb2⟩))
    go_ret
    exact ⟨by rw [HC.out]; rfl, bthen' hb0 (bthen' hb1 hb2)⟩
  | true =>
    have HC := Lib.hid (show clsV z L p = (idx (ofv z p) L : Int) from by unfold clsV; rw [hp]; rfl)
    simp only [hp] at KQ
    obtain ⟨x, hx⟩ : ∃ x, x = ofv z p := ⟨_, rfl⟩
    simp only [← hx] at KQ HC hxb
    have KQ2 := Lib.hid KQ
    obtain ⟨x0, x1⟩ := hxb
    clear KQ hp hx
    go_enter Try.func26, Try.ntmps26
    go_upto_region 1 with fail
    show Code.wp _ _ _ _ (w.alloc (.cells #[.int .i64 room, lv] 39))
    rw [← hW0]
    clear hW0
    go_wp2_with (first
      | (refine wpList_load_mid rfl 39 _ rfl w.heap.size 0 rfl [.int .i64 room, lv] _ HR.out Try.underlying39 rfl tgRow ?_)
      | (go_at_call 24; refine KH.out.mono ?_; rintro e W1 ⟨rfl, hb1⟩)
      | (go_at_call 25; refine (KQ2.out _).mono ?_; rintro e W2 ⟨rfl, hb2⟩))
    have hb3 := bthen' hb0 (bthen' hb1 hb2)
    have HV2 := Lib.hid (HV.out.below (bthen' hb1 hb2))
    go_loopw [11] (fun i wr => W2 = wr ∧ ∃ j : Nat, j ≤ L.length ∧ i = .int .i64 j ∧ ∀ i n, i < j → L[i]? = some n → max n 0 < x) (fun i _ => L.length - (intOf i).toNat)
    case atStart => exact ⟨rfl, 0, by omega, rfl, by intro i q h; omega⟩
    case round =>
      obtain ⟨rfl, j, hj, rfl, hall⟩ := hrel
      have HA := Lib.hid hall
      clear hall
      by_cases hlt : j < L.length
      · obtain ⟨n, hn⟩ : ∃ n, L[j]? = some n := ⟨_, List.getElem?_eq_getElem hlt⟩
        obtain ⟨b, off, rfl, hr⟩ := HV2.out.at hn
        have nc : W2.cell? ⟨b, off + j, none⟩ = some (.int .i64 n) := by have := hr 0 _ rfl; simpa [intR] using this
        obtain ⟨i0, i1⟩ := HL.out n (List.mem_of_getElem? hn)
        have HN := Lib.hid hn
        clear hn hr
        by_cases hxm : x ≤ max n 0
        · have HF := Lib.hid (idx_found HN.out hxm HA.out)
          by_cases hn0 : 0 ≤ n
          · have hxn : x ≤ n := by omega
            clear hxm
            go_wp2_with fail
            go_ret
            exact ⟨by rw [HC.out, HF.out]; rfl, hb3⟩
          · have hxn : x = 0 := by omega
            subst hxn
            clear hxm
            go_wp2_with fail
            go_ret
            exact ⟨by rw [HC.out, HF.out]; rfl, hb3⟩
        · have HX := Lib.hid (show max n 0 < x by omega)
          have HR2 : Hid (∀ i m, i < j + 1 → L[i]? = some m → max m 0 < x) := Lib.hid (fun i m hi hm => by
            by_cases hij : i = j
            · subst hij
              rw [HN.out] at hm
              cases hm
              exact HX.out
            · exact HA.out i m (by omega) hm)
          have hx0 : (x == 0) = false := by simp; omega
          by_cases hn0 : 0 ≤ n
          · have hxn : n < x := by omega
            clear hxm
            go_wp2_with fail
            go_roundw
            case rel => exact ⟨trivial, j + 1, by omega, by go_num, HR2.out⟩
            case measure => simp [intOf]; omega
          · clear hxm
            go_wp2_with fail
            go_roundw
            case rel => exact ⟨trivial, j + 1, by omega, by go_num, HR2.out⟩
            case measure => simp [intOf]; omega
      · obtain rfl : j = L.length := by omega
        have HF := Lib.hid (idx_none HA.out)
        go_wp2_with fail
        go_ret
        exact ⟨by rw [HC.out, HF.out]; rfl, hb3⟩

end Go.Proofs.Yteifjlhkfmoljaa
