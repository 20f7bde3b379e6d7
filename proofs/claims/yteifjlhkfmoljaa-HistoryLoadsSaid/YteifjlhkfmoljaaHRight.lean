/- Which rows are a history's table: the law, and the document's word. -/
import Derived.Test.YteifjlhkfmoljaaHSame2
set_option linter.unusedVariables false
namespace Go.Proofs.Yteifjlhkfmoljaa
open Go.RowKit
open HistLaw

theorem sm_zero : ∀ {h : List Int}, (∀ x ∈ h, 0 ≤ x ∧ x ≤ 64) → sm h = 0 → ∀ x ∈ h, x = 0
  | [], _, _ => by simp
  | y :: r, ha, hs => by
    have h0 : 0 ≤ sm r := sm_nonneg (fun x hx => (ha x (by simp [hx])).1)
    have hy := ha y (by simp)
    have hs' : y + sm r = 0 := by rw [← hs]; simp [sm]
    intro x hx
    rcases List.mem_cons.1 hx with rfl | hx
    · omega
    · exact sm_zero (fun x hx => ha x (by simp [hx])) (by omega) x hx
theorem tw_zero {v : Hs} (hr : rightB v.1 = true) : tw v.1 = 0 ↔ v.1 = noH.1 := by
  have ha := right_all hr
  have hl := v.2
  constructor
  · intro h
    rw [tw_of_all (by omega) ha] at h
    have hz := sm_zero ha h
    apply List.ext_getElem?
    intro i
    by_cases hi : i < 16
    · rw [List.getElem?_eq_getElem (by omega), hz _ (List.getElem_mem _), List.getElem?_eq_getElem (by rw [noH.2]; exact hi)]
      congr 1
      have : ∀ x ∈ noH.1, x = 0 := by decide
      exact (this _ (List.getElem_mem _)).symm
    · rw [List.getElem?_eq_none (by omega), List.getElem?_eq_none (by rw [noH.2]; omega)]
  · intro h
    rw [h]
    decide +kernel

/-- May a row be? -/
def okRow (p : Rw) : Bool := rightB p.2.1 && !decide (p.2.1 = noH.1)
def okRows (L : List Rw) : Prop := (∀ p ∈ L, okRow p = true) ∧ (L.map Prod.fst).Nodup
instance (L : List Rw) : Decidable (okRows L) := by unfold okRows; infer_instance
def rightL (room : Int) (L : List Rw) : Bool := decide (1 ≤ room) && decide ((L.length : Int) ≤ room) && decide (okRows L)
theorem okRows_nil : okRows [] := ⟨by simp, by simp⟩
theorem okRows_snoc {L : List Rw} {p : Rw} : okRows (L ++ [p]) ↔ okRows L ∧ okRow p = true ∧ ∀ q ∈ L, q.1 ≠ p.1 := by
  unfold okRows
  rw [List.map_append, List.nodup_append]
  constructor
  · rintro ⟨h1, h2, -, h3⟩
    exact ⟨⟨fun q hq => h1 q (by simp [hq]), h2⟩, h1 p (by simp), fun q hq => h3 q.1 (List.mem_map.2 ⟨q, hq, rfl⟩) p.1 (by simp)⟩
  · rintro ⟨⟨h1, h2⟩, h3, h4⟩
    refine ⟨fun q hq => ?_, h2, by simp, fun a ha b hb => ?_⟩
    · rcases List.mem_append.1 hq with hq | hq
      · exact h1 q hq
      · rw [List.mem_singleton.1 hq]; exact h3
    · obtain ⟨q, hq, rfl⟩ := List.mem_map.1 ha
      simp at hb
      subst hb
      exact h4 q hq
theorem okRows_pre {L M : List Rw} (h : okRows (L ++ M)) : okRows L := ⟨fun p hp => h.1 p (by simp [hp]), by have := h.2; rw [List.map_append, List.nodup_append] at this; exact this.1⟩
theorem okRows_take {L : List Rw} (h : okRows L) (k : Nat) : okRows (L.take k) := by
  rw [← List.take_append_drop k L] at h
  exact okRows_pre h
theorem rightL_not {room : Int} {L : List Rw} {k : Nat} {p : Rw} (hp : L[k]? = some p) (hk : okRows (L.take k)) (h : okRow p = false ∨ ∃ q ∈ L.take k, q.1 = p.1) : rightL room L = false := by
  unfold rightL
  rw [show decide (okRows L) = false from decide_eq_false (fun hall => ?_), Bool.and_false]
  have h2 := okRows_take hall (k + 1)
  rw [← take_snoc hp] at h2
  obtain ⟨-, h3, h4⟩ := okRows_snoc.1 h2
  rcases h with h | ⟨q, hq, e⟩
  · rw [h] at h3; cases h3
  · exact h4 q hq e
theorem rightL_yes {room : Int} {L : List Rw} (h1 : 1 ≤ room) (h2 : (L.length : Int) ≤ room) (h : okRows L) : rightL room L = true := by
  unfold rightL
  rw [decide_eq_true h1, decide_eq_true h2, decide_eq_true h]
  rfl
theorem rightL_room {room : Int} {L : List Rw} (h : room < 1 ∨ room < L.length) : rightL room L = false := by
  unfold rightL
  rcases h with h | h
  · rw [decide_eq_false (by omega : ¬ 1 ≤ room)]; rfl
  · rw [decide_eq_false (by omega : ¬ (L.length : Int) ≤ room)]; simp

theorem refRight_vh (v : Hs) (w : World) : Calls Try.prog 31 #[.agg (vh v).toArray] w fun e w' => e = .returned (.bool (rightB v.1)) ∧ Below w.heap.size w w' := refRight_any v.1 v.2 w
theorem refTotal_vh (v : Hs) (w : World) : Calls Try.prog 32 #[.agg (vh v).toArray] w fun e w' => e = .returned (.int .i64 (tw v.1)) ∧ Below w.heap.size w w' := refTotal_any v.1 v.2 w
theorem right_vh (v : Hs) (w : World) : Calls Try.prog 30 #[.agg (vh v).toArray] w fun e w' => e = .returned (.bool (rightB v.1)) ∧ Below w.heap.size w w' := right_any v.1 v.2 w
theorem okRow_no {p : Rw} (h : rightB p.2.1 = false) : okRow p = false := by unfold okRow; rw [h]; rfl
theorem okRow_zero {p : Rw} (h : tw p.2.1 = 0) : okRow p = false := by
  unfold okRow
  cases hr : rightB p.2.1 with
  | false => rfl
  | true => rw [decide_eq_true ((tw_zero hr).1 h)]; rfl
theorem okRow_yes {p : Rw} (hr : rightB p.2.1 = true) (h : tw p.2.1 ≠ 0) : okRow p = true := by
  unfold okRow
  rw [hr, decide_eq_false (fun e => h ((tw_zero hr).2 e))]
  rfl

set_option maxRecDepth 100000 in
set_option maxHeartbeats 2000000 in
theorem refRightL_any (w : World) (room : Int) (lv : Value) (L : List Rw) (hv : Reads rowR w lv L) (hbig : L.length ≤ 100000) :
    Calls Try.prog 14 #[.int .i64 room, lv] w fun e w' => e = .returned (.bool (rightL room L)) ∧ Below w.heap.size w w' := by
  obtain ⟨al, cl, rfl⟩ := hv.form
  have HV := Lib.hid hv
  clear hv
  by_cases h1 : room < 1
  · have HR := Lib.hid (rightL_room (L := L) (.inl h1))
    go_enter Try.func14, Try.ntmps14
    go_wp2_with fail
    go_ret
    exact ⟨by rw [HR.out]; rfl, Below.refl _ _⟩
  · by_cases h2 : room < (L.length : Int)
    · have HR := Lib.hid (rightL_room (L := L) (.inr h2))
      go_enter Try.func14, Try.ntmps14
      go_wp2_with fail
      go_ret
      exact ⟨by rw [HR.out]; rfl, Below.refl _ _⟩
    · go_enter Try.func14, Try.ntmps14
      go_wp2_with fail
      go_loopw [5, 6] (fun i _ wr => ∃ k : Nat, k ≤ L.length ∧ i = .int .i64 k ∧ Below w.heap.size w wr ∧ okRows (L.take k)) (fun i _ _ => L.length - (intOf i).toNat)
      case atStart => exact ⟨0, by omega, rfl, Below.refl _ _, okRows_nil⟩
      case round =>
        obtain ⟨k, hk, rfl, hW, hO⟩ := hrel
        have HO := Lib.hid hO
        have HW := Lib.hid hW
        clear hO
        by_cases hlt : k < L.length
        · obtain ⟨p, hp⟩ : ∃ p, L[k]? = some p := ⟨_, List.getElem?_eq_getElem hlt⟩
          have HV2 := Lib.hid (HV.out.below hW)
          obtain ⟨b, off, rfl, hr⟩ := (HV.out.below hW).at hp
          obtain ⟨r0, r1⟩ := row_parts hr
          replace r0 : wr.cell? ⟨b, off + k * 17, none⟩ = some (.string p.1) := r0
          have R1 := Lib.hid r1
          have R0 := Lib.hid r0
          have HP := Lib.hid hp
          clear hp hr r1 r0 HV2
          cases hrb : rightB p.2.1 with
          | false =>
            have HF := Lib.hid (rightL_not (room := room) HP.out HO.out (.inl (okRow_no hrb)))
            have KR := fun W => refRight_vh p.2 W
            rw [hrb] at KR
            have KR := Lib.hid KR
            clear hrb
            go_wp2_with (first
              | (refine wpList_load_mid rfl 49 _ rfl b (off + k * 17 + 1) rfl (vh p.2) _ R1.out histU rfl (vhRow p.2) ?_)
              | (go_at_call 31; refine (KR.out wr).mono ?_; rintro e W1 ⟨rfl, hb1⟩))
            go_ret
            exact ⟨by rw [HF.out]; rfl, bthen' HW.out hb1⟩
          | true =>
            have KR := fun W => refRight_vh p.2 W
            rw [hrb] at KR
            have KR := Lib.hid KR
            have KT := Lib.hid (fun W => refTotal_vh p.2 W)
            by_cases ht : tw p.2.1 = 0
            · have HF := Lib.hid (rightL_not (room := room) HP.out HO.out (.inl (okRow_zero ht)))
              have KT := fun W => refTotal_vh p.2 W
              rw [ht] at KT
              have KT := Lib.hid KT
              clear hrb ht
              go_wp2_with (first
                | (refine wpList_load_mid rfl 49 _ rfl b (off + k * 17 + 1) rfl (vh p.2) _ R1.out histU rfl (vhRow p.2) ?_)
                | (refine wl_load_mid rfl 49 _ rfl b (off + k * 17 + 1) rfl (vh p.2) _ (below_range hb1 R1.out) histU rfl (vhRow p.2) ?_)
                | (go_at_call 31; refine (KR.out wr).mono ?_; rintro e W1 ⟨rfl, hb1⟩)
                | (go_at_call 32; refine (KT.out _).mono ?_; rintro e W2 ⟨rfl, hb2⟩))
              go_ret
              exact ⟨by rw [HF.out]; rfl, bthen' HW.out (bthen' hb1 hb2)⟩
            · have hok := Lib.hid (okRow_yes hrb ht)
              have htb : (tw p.2.1 == 0) = false := by simpa using ht
              clear hrb ht
              go_upto_block 2 with (first
                | (refine wpList_load_mid rfl 49 _ rfl b (off + k * 17 + 1) rfl (vh p.2) _ R1.out histU rfl (vhRow p.2) ?_)
                | (refine wl_load_mid rfl 49 _ rfl b (off + k * 17 + 1) rfl (vh p.2) _ (below_range hb1 R1.out) histU rfl (vhRow p.2) ?_)
                | (go_at_call 31; refine (KR.out wr).mono ?_; rintro e W1 ⟨rfl, hb1⟩)
                | (go_at_call 32; refine (KT.out _).mono ?_; rintro e W2 ⟨rfl, hb2⟩))
              have hb12 := bthen' hb1 hb2
              obtain ⟨wo, hwo⟩ : ∃ wo, wo = wr := ⟨_, rfl⟩
              subst hwo
              go_wp2_with fail
              go_loopw [6] (fun i wx => ∃ j : Nat, j ≤ k ∧ i = .int .i64 j ∧ Below wo.heap.size wo wx ∧ ∀ q ∈ L.take j, q.1 ≠ p.1) (fun i _ => k - (intOf i).toNat)
              case atStart => exact ⟨0, by omega, rfl, hb12, by simp⟩
              case round =>
                obtain ⟨j, hj, rfl, hX, hall⟩ := hrel
                have HA := Lib.hid hall
                have HX := Lib.hid hX
                clear hall
                by_cases hjk : j < k
                · obtain ⟨q, hq⟩ : ∃ q, L[j]? = some q := ⟨_, List.getElem?_eq_getElem (by omega)⟩
                  obtain ⟨b2, off2, e2, hr2⟩ := ((HV.out.below HW.out).below hX).at hq
                  obtain ⟨rfl, rfl⟩ : b = b2 ∧ off = off2 := by simpa using e2
                  obtain ⟨s0, -⟩ := row_parts hr2
                  replace s0 : wr.cell? ⟨b, off + j * 17, none⟩ = some (.string q.1) := s0
                  have d0 := fun (z : Later wr) => z.cell s0
                  have d1 := fun (z : Later wr) => z.cell (below_cell hX R0.out)
                  have HQ := Lib.hid hq
                  clear hq hr2 s0 e2 hX
                  by_cases hk : q.1 = p.1
                  · have hkb : (q.1.toList == p.1.toList) = true := by rw [hk]; simp
                    have HF := Lib.hid (rightL_not (room := room) HP.out HO.out (.inr ⟨q, List.mem_iff_getElem?.2 ⟨j, by rw [List.getElem?_take_of_lt hjk]; exact HQ.out⟩, hk⟩))
                    clear hk
                    go_upto_region 11 with fail
                    refine wp_region_later (by kernel_rfl) (by kernel_rfl) (Below.refl _ _) ?_
                    repeat (first
                      | go_big_quiet_skip
                      | (go_big_quiet_want; (go_big_quiet_op; go_big_quiet_on)))
                    refine wpQuiet_nil ?_
                    rintro ⟨W8, hb8⟩
                    dsimp only
                    clear d0 d1
                    go_wp2_with fail
                    go_ret
                    exact ⟨by rw [HF.out]; rfl, bthen' HW.out (bthen' HX.out hb8)⟩
                  · have hkb : (q.1.toList == p.1.toList) = false := by rw [beq_eq_false_iff_ne, Ne, bytes_inj']; exact hk
                    have HK := Lib.hid hk
                    clear hk
                    go_upto_region 11 with fail
                    refine wp_region_later (by kernel_rfl) (by kernel_rfl) (Below.refl _ _) ?_
                    repeat (first
                      | go_big_quiet_skip
                      | (go_big_quiet_want; (go_big_quiet_op; go_big_quiet_on)))
                    refine wpQuiet_nil ?_
                    rintro ⟨W8, hb8⟩
                    dsimp only
                    clear d0 d1
                    go_wp2_with fail
                    go_roundw
                    case rel => exact ⟨j + 1, by omega, by go_num, bthen' HX.out hb8, by
                      rw [← take_snoc HQ.out]
                      intro y hy
                      rcases List.mem_append.1 hy with hy | hy
                      · exact HA.out y hy
                      · rw [List.mem_singleton.1 hy]; exact HK.out⟩
                    case measure => simp [intOf]; omega
                · obtain rfl : j = k := by omega
                  go_wp2_with fail
                  go_roundw
                  case rel => exact ⟨j + 1, by omega, by go_num, bthen' HW.out HX.out, by rw [← take_snoc HP.out]; exact okRows_snoc.2 ⟨HO.out, hok.out, HA.out⟩⟩
                  case measure => simp [intOf]; omega
        · obtain rfl : k = L.length := by omega
          have hO := HO.out
          rw [List.take_length] at hO
          have HR := Lib.hid (rightL_yes (room := room) (by omega) (by omega) hO)
          clear hO
          go_wp2_with fail
          go_ret
          exact ⟨by rw [HR.out]; rfl, HW.out⟩
end Go.Proofs.Yteifjlhkfmoljaa
