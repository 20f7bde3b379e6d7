/- What is wrong with tenants: the program's. -/
import Derived.Test.YtogajmbkjojdhaaConfWalks
set_option linter.unusedVariables false
set_option maxRecDepth 100000
namespace Go.Proofs.Ytogajmbkjojdhaa
open Go.RowKit

theorem keyMet : Try.prog.underlying 94 = some (.map 9 3) := by kernel_rfl
theorem strKey : (strK 9).Ok := strK_ok Try.underlying9
theorem zeroInt (w : World) : (zeroValue 3).run Try.prog w = .ok (.int .i64 0) w := by
  first | rfl | simp [zeroValue, run_underlying Try.underlying3]
def MetF (A : List ByteArray) : ByteArray → Option Value := fun x => if inL x A = true then some (.int .i64 1) else none
theorem MetF.add (A : List ByteArray) (k x : ByteArray) : (if x = k then some (Value.int .i64 1) else MetF A x) = MetF (A ++ [k]) x := by
  unfold MetF
  by_cases h : x = k
  · rw [if_pos h, if_pos (inL_true.2 (by simp [h]))]
  · rw [if_neg h]
    by_cases h2 : x ∈ A
    · rw [if_pos (inL_true.2 h2), if_pos (inL_true.2 (by simp [h2]))]
    · rw [if_neg (fun h3 => h2 (inL_true.1 h3)), if_neg (fun h3 => by have := inL_true.1 h3; simp [h, h2] at this)]

theorem tensv_few {T : List Ten} (h : ¬ 1 ≤ T.length) : tensv T = 9 := by unfold tensv; rw [if_neg (fun x => h x.1)]
theorem tensv_many {T : List Ten} (h : ¬ T.length ≤ 6) : tensv T = 9 := by unfold tensv; rw [if_neg (fun x => h x.2)]
theorem tensv_some {T : List Ten} (h : 1 ≤ T.length) (h2 : T.length ≤ 6) : tensv T = tensF [] T := by unfold tensv; rw [if_pos ⟨h, h2⟩]
theorem tenv_name {t : Ten} (h : nameB t.name.data.toList = false) : tenv t = 5 := by unfold tenv; rw [if_pos h]
theorem tenv_bad {t : Ten} (h : nameB t.name.data.toList = true) (h2 : ¬ (inB t.wt 1 16 = true ∧ inB t.q 1 256 = true)) : tenv t = 1 := by unfold tenv; rw [if_neg (by rw [h]; simp), if_neg h2]
theorem tenv_ok {t : Ten} (h : nameB t.name.data.toList = true) (h2 : inB t.wt 1 16 = true) (h3 : inB t.q 1 256 = true) : tenv t = 0 := by unfold tenv; rw [if_neg (by rw [h]; simp), if_pos ⟨h2, h3⟩]

set_option maxRecDepth 100000 in
set_option maxHeartbeats 4000000 in
theorem tenants_any (w : World) (v : Value) (T : List Ten) (hv : Reads tenR w v T) (hn : ∀ x ∈ T, x.name.size ≤ 9223372036854775807) (hbig : T.length ≤ 1000000) :
    Calls Try.prog 44 #[v] w fun e w' => e = .returned (.int .i64 (tensv T)) ∧ Below w.heap.size w w' := by
  obtain ⟨av, capv, rfl⟩ := hv.form
  have HV := Lib.hid hv
  clear hv
  by_cases h1 : 1 ≤ T.length
  · by_cases h2 : T.length ≤ 6
    · have HT := Lib.hid (tensv_some h1 h2)
      have hmm := @run_makeMap Try.prog
      go_enter Try.func44, Try.ntmps44
      go_wp2_with fail
      clear hmm
      go_loopw [17] (fun i wr => ∃ k : Nat, k ≤ T.length ∧ i = .int .i64 k ∧ Below w.heap.size w wr ∧ (∃ n, MapF (strK 9) wr w.heap.size (MetF ((T.take k).map Ten.name)) n) ∧ TensRest T k) (fun i _ => T.length - (intOf i).toNat)
      case atStart => exact ⟨0, by omega, rfl, (Below.refl _ _).alloc (Nat.le_refl _) _, ⟨0, (MapF.made _ w).congr (fun x => by simp [MetF, inL])⟩, TensRest.start T⟩
      case round =>
        obtain ⟨k, hk, rfl, hb, ⟨n, hM⟩, hno⟩ := hrel
        have HM := Lib.hid hM
        have HN := Lib.hid hno
        clear hM hno
        by_cases hlt : k < T.length
        · obtain ⟨x, hx⟩ : ∃ x, T[k]? = some x := ⟨_, List.getElem?_eq_getElem hlt⟩
          obtain ⟨b, off, rfl, hr⟩ := (HV.out.below hb).at hx
          have hnx : x.name.size ≤ 9223372036854775807 := hn x (List.mem_of_getElem? hx)
          have HX := Lib.hid hx
          clear hx
          cases hnm : nameB x.name.data.toList with
          | false =>
            have HE := Lib.hid (show tensv T = 5 from by rw [HT.out, HN.out.bad HX.out (by rw [tenv_name hnm]; decide), tenv_name hnm])
            have KN := Lib.hid (fun w => name_any w x.name hnx)
            rw [hnm] at KN
            clear HN HX hnm
            go_wp2_with (first
              | (refine wpList_load_mid rfl 46 _ rfl b (off + k * tenR.n) rfl (tenR.cells x) _ hr Try.underlying46 rfl (tenOk.row x) ?_)
              | (refine wpList_store_mid rfl 46 _ _ rfl wr.heap.size 0 (tenR.cells x).toArray rfl rfl (freshR_there tenOk wr x) (tenOk.row' x) (tenOk.one' x) ?_; show wpList _ _ _ _ _ (freshR tenR wr x); have hx3 := freshR_range tenOk wr x; have hb3 := freshR_below (R := tenR) wr x; generalize freshR tenR wr x = W3 at hx3 hb3 ⊢; obtain ⟨n0, n1, n2⟩ := three_cells hx3)
              | (go_at_call 56; refine (KN.out _).mono ?_; rintro e W4 ⟨rfl, hb4⟩; have k0 := below_cell hb4 n0; have k1 := below_cell hb4 n1; have k2 := below_cell hb4 n2; have HM4 := Lib.hid ((HM.out.below hb3).below hb4); clear n0 n1 n2))
            go_ret
            exact ⟨by rw [HE.out]; rfl, bthen' (bthen' hb hb3) hb4⟩
          | true =>
            have KN := Lib.hid (fun w => name_any w x.name hnx)
            rw [hnm] at KN
            by_cases hall : inB x.wt 1 16 = true ∧ inB x.q 1 256 = true
            · have h0 := tenv_ok hnm hall.1 hall.2
              rw [inB_true, inB_true] at hall
              obtain ⟨⟨a1, a2⟩, a3, a4⟩ := hall
              by_cases hin : x.name ∈ (T.take k).map Ten.name
              · have HE := Lib.hid (show tensv T = 8 from by rw [HT.out, HN.out.there HX.out h0 hin])
                have hf0 : (MetF ((T.take k).map Ten.name) x.name).getD (.int .i64 0) = .int .i64 1 := by unfold MetF; rw [if_pos (inL_true.2 hin)]; rfl
                clear HN HX hnm hin h0
                go_wp2_with (first
                  | (refine wpList_load_mid rfl 46 _ rfl b (off + k * tenR.n) rfl (tenR.cells x) _ hr Try.underlying46 rfl (tenOk.row x) ?_)
                  | (refine wpList_store_mid rfl 46 _ _ rfl wr.heap.size 0 (tenR.cells x).toArray rfl rfl (freshR_there tenOk wr x) (tenOk.row' x) (tenOk.one' x) ?_; show wpList _ _ _ _ _ (freshR tenR wr x); have hx3 := freshR_range tenOk wr x; have hb3 := freshR_below (R := tenR) wr x; generalize freshR tenR wr x = W3 at hx3 hb3 ⊢; obtain ⟨n0, n1, n2⟩ := three_cells hx3)
                  | (go_at_call 56; refine (KN.out _).mono ?_; rintro e W4 ⟨rfl, hb4⟩; have k0 := below_cell hb4 n0; have k1 := below_cell hb4 n1; have k2 := below_cell hb4 n2; have HM4 := Lib.hid ((HM.out.below hb3).below hb4); clear n0 n1 n2)
                  | (refine wl_lookup strKey rfl _ _ _ _ rfl keyMet zeroInt rfl HM4.out x.name rfl ?_; rw [hf0]))
                all_goals try omega
                go_ret
                exact ⟨by rw [HE.out]; rfl, bthen' (bthen' hb hb3) hb4⟩
              · have HE := Lib.hid (HN.out.step HX.out h0 hin)
                have hf0 : (MetF ((T.take k).map Ten.name) x.name).getD (.int .i64 0) = .int .i64 0 := by unfold MetF; rw [if_neg (fun h3 => hin (inL_true.1 h3))]; rfl
                have HA := Lib.hid (show (T.take k).map Ten.name ++ [x.name] = (T.take (k + 1)).map Ten.name from by rw [← take_snoc HX.out]; simp)
                clear HN HX hnm hin h0
                go_wp2_with (first
                  | (refine wpList_load_mid rfl 46 _ rfl b (off + k * tenR.n) rfl (tenR.cells x) _ hr Try.underlying46 rfl (tenOk.row x) ?_)
                  | (refine wpList_store_mid rfl 46 _ _ rfl wr.heap.size 0 (tenR.cells x).toArray rfl rfl (freshR_there tenOk wr x) (tenOk.row' x) (tenOk.one' x) ?_; show wpList _ _ _ _ _ (freshR tenR wr x); have hx3 := freshR_range tenOk wr x; have hb3 := freshR_below (R := tenR) wr x; generalize freshR tenR wr x = W3 at hx3 hb3 ⊢; obtain ⟨n0, n1, n2⟩ := three_cells hx3)
                  | (go_at_call 56; refine (KN.out _).mono ?_; rintro e W4 ⟨rfl, hb4⟩; have k0 := below_cell hb4 n0; have k1 := below_cell hb4 n1; have k2 := below_cell hb4 n2; have HM4 := Lib.hid ((HM.out.below hb3).below hb4); clear n0 n1 n2)
                  | (refine wl_lookup strKey rfl _ _ _ _ rfl keyMet zeroInt rfl HM4.out x.name rfl ?_; rw [hf0])
                  | (refine wl_update strKey rfl _ _ _ _ _ rfl keyMet rfl HM4.out x.name rfl (.int .i64 1) rfl ?_; intro W5 hu5 hm5))
                all_goals try omega
                go_roundw
                case rel => exact ⟨k + 1, by omega, by go_num, hu5.toBelow (bthen' (bthen' hb hb3) hb4) (by have := hb.size; have := hb3.size; have := hb4.size; omega) (by simp), ⟨_, hm5.congr (fun y => by rw [MetF.add, HA.out])⟩, HE.out⟩
                case measure => simp [intOf]; omega
            · have HE := Lib.hid (show tensv T = 1 from by rw [HT.out, HN.out.bad HX.out (by rw [tenv_bad hnm hall]; decide), tenv_bad hnm hall])
              rw [inB_true, inB_true] at hall
              clear HN HX hnm
              have hbad : x.wt < 1 ∨ (1 ≤ x.wt ∧ 16 < x.wt) ∨ (1 ≤ x.wt ∧ x.wt ≤ 16 ∧ x.q < 1) ∨ (1 ≤ x.wt ∧ x.wt ≤ 16 ∧ 1 ≤ x.q ∧ 256 < x.q) := by omega
              clear hall
              rcases hbad with a1 | ⟨a1, a2⟩ | ⟨a1, a2, a3⟩ | ⟨a1, a2, a3, a4⟩
              all_goals
                go_wp2_with (first
                  | (refine wpList_load_mid rfl 46 _ rfl b (off + k * tenR.n) rfl (tenR.cells x) _ hr Try.underlying46 rfl (tenOk.row x) ?_)
                  | (refine wpList_store_mid rfl 46 _ _ rfl wr.heap.size 0 (tenR.cells x).toArray rfl rfl (freshR_there tenOk wr x) (tenOk.row' x) (tenOk.one' x) ?_; show wpList _ _ _ _ _ (freshR tenR wr x); have hx3 := freshR_range tenOk wr x; have hb3 := freshR_below (R := tenR) wr x; generalize freshR tenR wr x = W3 at hx3 hb3 ⊢; obtain ⟨n0, n1, n2⟩ := three_cells hx3)
                  | (go_at_call 56; refine (KN.out _).mono ?_; rintro e W4 ⟨rfl, hb4⟩; have k0 := below_cell hb4 n0; have k1 := below_cell hb4 n1; have k2 := below_cell hb4 n2; have HM4 := Lib.hid ((HM.out.below hb3).below hb4); clear n0 n1 n2))
                all_goals try omega
                all_goals go_ret
                all_goals exact ⟨by rw [HE.out]; rfl, bthen' (bthen' hb hb3) hb4⟩
        · obtain rfl : k = T.length := by omega
          have HE := Lib.hid (HN.out.done)
          clear HN
          go_wp2_with fail
          go_ret
          exact ⟨by rw [HT.out, HE.out]; rfl, hb⟩
    · have HT := Lib.hid (tensv_many h2)
      go_enter Try.func44, Try.ntmps44
      go_wp2_with fail
      all_goals try omega
      all_goals go_ret
      all_goals exact ⟨by rw [HT.out]; rfl, Below.refl _ _⟩
  · have HT := Lib.hid (tensv_few h1)
    go_enter Try.func44, Try.ntmps44
    go_wp2_with fail
    all_goals try omega
    all_goals go_ret
    all_goals exact ⟨by rw [HT.out]; rfl, Below.refl _ _⟩

end Go.Proofs.Ytogajmbkjojdhaa
