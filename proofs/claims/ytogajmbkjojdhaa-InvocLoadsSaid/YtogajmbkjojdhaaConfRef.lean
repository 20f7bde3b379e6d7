/- The reference's limits. -/
import Derived.Test.YtogajmbkjojdhaaConfWalks
import Derived.BigGuardPart
set_option linter.unusedVariables false
set_option maxRecDepth 100000
namespace Go.Proofs.Ytogajmbkjojdhaa
open Go.RowKit

/-- The limit ahead of the k-th. -/
def LastOf (L : List Int) (k : Nat) (last : Int) : Prop := 0 ≤ last ∧ ((k = 0 ∧ last = 0) ∨ ∃ m, k = m + 1 ∧ L[m]? = some last)

set_option maxRecDepth 100000 in
set_option maxHeartbeats 2000000 in
theorem rises_any (w : World) (v : Value) (L : List Int) (hv : Reads intR w v L) (hbig : L.length ≤ 1000000) :
    Calls Try.prog 55 #[v] w fun e w' => e = .returned (.bool (risesF 0 L)) ∧ Below w.heap.size w w' := by
  obtain ⟨av, capv, rfl⟩ := hv.form
  have HV := Lib.hid hv
  clear hv
  go_enter Try.func55, Try.ntmps55
  go_wp2_with fail
  go_loopw [3] (fun i wr => ∃ (k : Nat) (last : Int), k ≤ L.length ∧ i = .int .i64 k ∧ Below w.heap.size w wr ∧ LastOf L k last ∧ RiseRest L k last) (fun i _ => L.length - (intOf i).toNat)
  case atStart => exact ⟨0, 0, by omega, rfl, Below.refl _ _, ⟨by omega, .inl ⟨rfl, rfl⟩⟩, RiseRest.start L⟩
  case round =>
    obtain ⟨k, last, hk, rfl, hb, ⟨h0, hlast⟩, hno⟩ := hrel
    have HN := Lib.hid hno
    clear hno
    by_cases hlt : k < L.length
    · obtain ⟨y, hy⟩ : ∃ y, L[k]? = some y := ⟨_, List.getElem?_eq_getElem hlt⟩
      obtain ⟨b, off, rfl, hr⟩ := (HV.out.below hb).at hy
      have m0 := fun (z : Later wr) => z.cell (show wr.cell? ⟨b, off + k, none⟩ = some (.int .i64 y) from by have := hr 0 _ rfl; simpa [intR] using this)
      have HY := Lib.hid hy
      clear hy hr
      have KIN := Lib.hid (in_any · y 1 1048576)
      cases hin : inB y 1 1048576 with
      | false =>
        have hbad : risesF 0 L = false := HN.out.bad HY.out (by rw [inB_false] at hin; omega)
        have HM := Lib.hid hbad
        rw [hin] at KIN
        clear HN HY hlast hbad hin
        go_wp2_with fail
        refine wp_region_later (by kernel_rfl) (by kernel_rfl) (Below.refl _ _) ?_
        repeat (first
          | go_big_quiet_skip
          | (go_big_quiet_want; first
            | (go_big_quiet_op; first | go_big_quiet_on | go_big_quiet_call (first | (go_at_call 54; exact Calls.later_same (KIN.out _))))))
        refine wpQuiet_nil ?_
        rintro ⟨W3, hb3⟩
        dsimp only
        go_wp2_with fail
        go_ret
        exact ⟨ret_bool HM.out.symm, bthen' hb hb3⟩
      | true =>
        rw [inB_true] at hin
        obtain ⟨hy1, hy2⟩ := hin
        rw [show inB y 1 1048576 = true from inB_true.2 ⟨hy1, hy2⟩] at KIN
        rcases hlast with ⟨rfl, rfl⟩ | ⟨m, rfl, hm⟩
        · have m2 : ∀ z : Later wr, z.w.cell? ⟨b, off, none⟩ = some (.int .i64 y) := fun z => by simpa using m0 z
          have HM := Lib.hid (HN.out.step HY.out (by omega) hy2)
          have HL := Lib.hid (show LastOf L (0 + 1) y from ⟨by omega, .inr ⟨0, rfl, HY.out⟩⟩)
          clear HN HY
          go_wp2_with fail
          refine wp_region_later (by kernel_rfl) (by kernel_rfl) (Below.refl _ _) ?_
          repeat (first
            | go_big_quiet_skip
            | (go_big_quiet_want; first
              | (go_big_quiet_op; first | go_big_quiet_on | go_big_quiet_call (first | (go_at_call 54; exact Calls.later_same (KIN.out _))))))
          refine wpQuiet_nil ?_
          rintro ⟨W3, hb3⟩
          dsimp only
          go_wp2_with fail
          go_roundw
          case rel => exact ⟨1, y, by omega, by go_num, bthen' hb hb3, HL.out, HM.out⟩
          case measure => simp [intOf]; omega
        · obtain ⟨b', off', he', hr'⟩ := (HV.out.below hb).at hm
          simp only [Option.some.injEq, Addr.mk.injEq, and_true] at he'
          obtain ⟨rfl, rfl⟩ := he'
          have m1 := fun (z : Later wr) => z.cell (show wr.cell? ⟨b, off + m, none⟩ = some (.int .i64 last) from by have := hr' 0 _ rfl; simpa [intR] using this)
          clear hr' hm
          by_cases hle : last < y
          · have HM := Lib.hid (HN.out.step HY.out hle hy2)
            have HL := Lib.hid (show LastOf L (m + 1 + 1) y from ⟨by omega, .inr ⟨m + 1, rfl, HY.out⟩⟩)
            clear HN HY
            go_wp2_with fail
            refine wp_region_later (by kernel_rfl) (by kernel_rfl) (Below.refl _ _) ?_
            repeat (first
              | go_big_quiet_skip
              | (go_big_quiet_want; first
                | (go_big_quiet_op; first | go_big_quiet_on | go_big_quiet_call (first | (go_at_call 54; exact Calls.later_same (KIN.out _))))))
            refine wpQuiet_nil ?_
            rintro ⟨W3, hb3⟩
            dsimp only
            go_wp2_with fail
            go_roundw
            case rel => exact ⟨m + 1 + 1, y, by omega, by go_num, bthen' hb hb3, HL.out, HM.out⟩
            case measure => simp [intOf]; omega
          · have HM := Lib.hid (HN.out.bad HY.out (fun h => hle h.1))
            clear HN HY
            go_wp2_with fail
            refine wp_region_later (by kernel_rfl) (by kernel_rfl) (Below.refl _ _) ?_
            repeat (first
              | go_big_quiet_skip
              | (go_big_quiet_want; first
                | (go_big_quiet_op; first | go_big_quiet_on | go_big_quiet_call (first | (go_at_call 54; exact Calls.later_same (KIN.out _))))))
            refine wpQuiet_nil ?_
            rintro ⟨W3, hb3⟩
            dsimp only
            go_wp2_with fail
            go_ret
            exact ⟨ret_bool HM.out.symm, bthen' hb hb3⟩
    · obtain rfl : k = L.length := by omega
      have HM := Lib.hid HN.out.done
      clear HN
      go_wp2_with fail
      go_ret
      exact ⟨ret_bool HM.out.symm, hb⟩

end Go.Proofs.Ytogajmbkjojdhaa
