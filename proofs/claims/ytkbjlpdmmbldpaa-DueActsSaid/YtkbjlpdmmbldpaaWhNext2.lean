/- Next (printed by genwhnext2.py). -/
import Derived.Test.YtkbjlpdmmbldpaaWhNext
set_option linter.unusedVariables false
set_option linter.unusedSimpArgs false
set_option maxRecDepth 100000
namespace Go.Proofs.Ytkbjlpdmmbldpaa
open Go.RowKit

theorem next_nil (w : World) : Calls Try.prog 24 #[.pointer none] w fun e w' => e = .returned (.tuple #[.int .u64 0, .bool false]) ∧ w = w' := by
  go_enter Try.func24, Try.ntmps24
  go_wp2_with (go_at_call 14; refine (len_nil _).mono ?_; rintro e w' ⟨rfl, rfl⟩)
  go_ret2
  exact ⟨rfl, rfl⟩
set_option maxHeartbeats 4000000 in
theorem next_any {T : Nat → Prop} {w : World} {p now : Nat} {L : List Tm} (h : WT T w p now L) (hL : L.length ≤ 100000) :
    Calls Try.prog 24 #[.pointer (some ⟨p, 0, none⟩)] w (NextP w L) := by
  have KL := Lib.hid (len_any h (by omega))
  obtain ⟨h1, h2, h3, m, sm, rv, R, h4, h5⟩ := h
  have HM := Lib.hid h4
  have HR := Lib.hid h5
  have hform : ∀ s, s < 96 → ∃ a c, rv s = .slice a (R s).length c := fun s hs => (h4.each s hs).form
  have HF := Lib.hid hform
  have hget : ∀ s, s < 96 → ∀ i ∈ R s, (gotT L i).isSome = true := fun s hs i hi => by
    obtain ⟨x, hx, rfl, -⟩ := ((h5 s hs).2 i).1 hi
    rw [gotT_of h3 hx]; rfl
  have KX := Lib.hid (fun s (hs : s < 96) (hne : R s ≠ []) W (hb : Below w.heap.size w W) a c (e : rv s = .slice a (R s).length c) => (show Calls Try.prog 52 #[.pointer (some ⟨p, 0, none⟩), .slice a (R s).length c] W (LeastP W (tauT L) (R s)) from by
    have hh := least_any (h4.below hb) (v := rv s) (X := R s) (((h4.below hb).each s hs).lts intOk) hne (hget s hs) (by have := h5.len hs; omega)
    rw [e] at hh
    exact hh))
  clear h4 h5 hform hget
  by_cases h0 : L = []
  · subst h0
    go_enter Try.func24, Try.ntmps24
    go_wp2_with (go_at_call 14; refine KL.out.mono ?_; rintro e w' ⟨rfl, rfl⟩)
    go_ret2
    exact ⟨Below.refl _ _, .inl ⟨rfl, rfl⟩⟩
  · have hlen : 0 < L.length := List.length_pos_iff.2 h0
    have hlb : (((L.length : Nat) : Int) == 0) = false := by simp; omega
    have H0 := Lib.hid h0
    clear h0
    obtain ⟨a64, c64, e64⟩ := HF.out 64 (by decide)
    have cr := HM.out.row (s := 64) (by decide)
    rw [e64] at cr
    have cr67 : w.cell? ⟨p, 67, none⟩ = some (.slice a64 (R 64).length c64) := cr
    have FIN := Lib.hid (fun s (hs : s < 96) (hlate : s = 64 ∨ R 64 = [] ∧ ∀ s', s' < s → s' < 64 → R s' = []) (mm : Nat) W (hb : Below w.heap.size w W) (ha : ∃ i ∈ R s, tauT L i = mm) (hb2 : ∀ i ∈ R s, mm ≤ tauT L i) => (show NextP w L (.returned (.tuple #[.int .u64 (mm : Int), .bool true])) W from by
      obtain ⟨q1, q2⟩ := row_least HR.out h3 hs hlate ha hb2
      exact ⟨hb, .inr ⟨mm, q1, q2, rfl⟩⟩))
    clear cr
    by_cases hl : R 64 = []
    · have hl0 : ((R 64).length : Nat) = 0 := by rw [hl]; rfl
      rw [hl0] at cr67
      have HL64 := Lib.hid hl
      clear hl hl0 e64
      go_enter Try.func24, Try.ntmps24
      go_upto_block 0 with (go_at_call 14; refine KL.out.mono ?_; rintro e w' ⟨rfl, rfl⟩)
      clear cr67
      go_wp2_with fail
      go_loopw [23] (fun i wr => ∃ lv : Nat, lv ≤ 4 ∧ i = .int .i64 lv ∧ w = wr ∧ Hid (∀ s, s < 16 * lv → R s = [])) (fun i _ => 4 - (intOf i).toNat)
      case atStart => exact ⟨0, by omega, rfl, rfl, Lib.hid (fun s hs => by omega)⟩
      case round =>
        obtain ⟨lv, hlv, rfl, hww, HE⟩ := hrel
        subst hww
        by_cases hlv4 : lv < 4
        · go_upto_block 2 with fail
          go_wp2_with fail
          go_loopw [26] (fun j wr => ∃ sl : Nat, sl ≤ 16 ∧ j = .int .i64 sl ∧ w = wr ∧ Hid (∀ s, s < 16 * lv + sl → R s = [])) (fun j _ => 16 - (intOf j).toNat)
          case atStart => exact ⟨0, by omega, rfl, rfl, HE⟩
          case round =>
            obtain ⟨sl, hsl, rfl, hww, HE2⟩ := hrel
            subst hww
            by_cases hsl16 : sl < 16
            · have hs96 : 16 * lv + sl < 96 := by omega
              obtain ⟨ar, cr, er⟩ := HF.out (16 * lv + sl) hs96
              have cro := HM.out.row hs96
              rw [er] at cro
              have crc : w.cell? ⟨p, 3 + lv * 16 + sl, none⟩ = some (.slice ar (R (16 * lv + sl)).length cr) := by rw [show 3 + lv * 16 + sl = 3 + (16 * lv + sl) from by omega]; exact cro
              clear cro
              by_cases hre : R (16 * lv + sl) = []
              · have hr0 : (R (16 * lv + sl)).length = 0 := by rw [hre]; rfl
                have HR0 := Lib.hid hre
                rw [hr0] at crc
                clear hre hr0 er
                go_wp2_with fail
                go_roundw
                case rel => exact ⟨sl + 1, by omega, by go_num, trivial, Lib.hid (fun s hs => by
                  by_cases h9 : s = 16 * lv + sl
                  · rw [h9]; exact HR0.out
                  · exact HE2.out s (by omega))⟩
                case measure => simp [intOf]; omega
              · have hrp : 0 < (R (16 * lv + sl)).length := List.length_pos_iff.2 hre
                have KX2 := Lib.hid (KX.out (16 * lv + sl) hs96 hre w (Below.refl _ _) ar cr er)
                clear hre er
                go_wp2_with (go_at_call 52; refine KX2.out.mono ?_; rintro e W1 ⟨mm, rfl, hb1, ha1, ha2⟩; have HA1 := Lib.hid ha1; have HA2 := Lib.hid ha2; clear ha1 ha2)
                go_ret2
                exact FIN.out (16 * lv + sl) hs96 (.inr ⟨HL64.out, fun s' h1 h2 => HE2.out s' h1⟩) mm W1 hb1 HA1.out HA2.out
            · obtain rfl : sl = 16 := by omega
              go_wp2_with fail
              go_roundw
              case rel => exact ⟨lv + 1, by omega, by go_num, trivial, Lib.hid (fun s hs => HE2.out s (by omega))⟩
              case measure => simp [intOf]; omega
        · obtain rfl : lv = 4 := by omega
          obtain ⟨a80, c80, e80⟩ := HF.out 80 (by decide)
          have cr := HM.out.row (s := 80) (by decide)
          rw [e80] at cr
          have cr83 : w.cell? ⟨p, 83, none⟩ = some (.slice a80 (R 80).length c80) := cr
          clear cr
          have hne80 : R 80 ≠ [] := by
            obtain ⟨x, hx⟩ := List.exists_mem_of_ne_nil _ H0.out
            have hxr : x.id ∈ R (spotN now x.t) := ((HR.out _ (spotN_lt now x.t)).2 x.id).2 ⟨x, hx, rfl, rfl⟩
            rcases spot_kinds now x.t with h9 | h9 | h9
            · rw [HE.out _ (by omega)] at hxr; cases hxr
            · rw [h9, HL64.out] at hxr; cases hxr
            · rw [h9] at hxr; exact List.ne_nil_of_mem hxr
          have KX2 := Lib.hid (KX.out 80 (by decide) hne80 w (Below.refl _ _) a80 c80 e80)
          clear e80 hne80
          go_wp2_with (go_at_call 52; refine KX2.out.mono ?_; rintro e W1 ⟨mm, rfl, hb1, ha1, ha2⟩; have HA1 := Lib.hid ha1; have HA2 := Lib.hid ha2; clear ha1 ha2)
          go_ret2
          exact FIN.out 80 (by decide) (.inr ⟨HL64.out, fun s' h1 h2 => HE.out s' (by omega)⟩) mm W1 hb1 HA1.out HA2.out
    · have hlp : 0 < (R 64).length := List.length_pos_iff.2 hl
      have KX2 := Lib.hid (KX.out 64 (by decide) hl w (Below.refl _ _) a64 c64 e64)
      clear hl e64
      go_enter Try.func24, Try.ntmps24
      go_wp2_with (first
        | (go_at_call 14; refine KL.out.mono ?_; rintro e w' ⟨rfl, rfl⟩)
        | (go_at_call 52; refine KX2.out.mono ?_; rintro e W1 ⟨mm, rfl, hb1, ha1, ha2⟩; have HA1 := Lib.hid ha1; have HA2 := Lib.hid ha2; clear ha1 ha2))
      go_ret2
      exact FIN.out 64 (by decide) (.inl rfl) mm W1 hb1 HA1.out HA2.out
end Go.Proofs.Ytkbjlpdmmbldpaa
