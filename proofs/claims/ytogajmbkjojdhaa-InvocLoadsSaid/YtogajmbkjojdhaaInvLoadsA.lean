/- Merged of InvRight InvLoads. -/
import Derived.Test.YtogajmbkjojdhaaInvLoadA
import Derived.Test.YtogajmbkjojdhaaInvActs

/-! The document's Right (printed by geninvright.py). -/
set_option linter.unusedVariables false
set_option linter.unusedSimpArgs false
set_option maxRecDepth 100000
namespace Go.Proofs.Ytogajmbkjojdhaa
open Go.RowKit

theorem upd_grown' {w w' : World} {row : Option Nat} (h : w.grownBy w' row) : Upd row.toList w w' :=
  ⟨h.os, h.tape, h.output, h.size, fun k hk hn => h.block k hk (fun e => hn (by rw [← e]; simp))⟩
/-- At a load of a type (with_reducible: a cheap test ahead of a law's arm). -/
theorem at_load {ops : Array Oper} {rest : List Oper} {d : Option Nat} (T : TypeId) {x : Operand} {t : TypeId} {p : String} {af : Array Edge} {g : Option (Nat × Bool)} {a : Act} {w : World} {Q : Exit → Act → World → Prop}
    (h : wpList Try.prog ops Q (⟨d, .load T x, t, p, af, g⟩ :: rest) a w) : wpList Try.prog ops Q (⟨d, .load T x, t, p, af, g⟩ :: rest) a w := h
def zeroV : List Value := refCells zeroC 0 (.slice none 0 0)
def freshV (w : World) (cs : List Value) : World := (w.alloc (.cells zeroV.toArray 53)).setCells w.heap.size 0 cs
theorem freshV_there' (w : World) (c : Cfg) (l : Int) (v : Value) : (w.alloc (.cells zeroV.toArray 53)).there w.heap.size 0 (refCells c l v).length := by
  intro j hj
  have hj : j < 21 := hj
  refine ⟨?_, by unfold World.frozen?; simp only [heap_alloc_new w (.cells zeroV.toArray 53)]; simp⟩
  rw [cell_of_row _ w.heap.size (0 + j) _ 53 (0, 0) (heap_alloc_new _ _)]
  have : zeroV.length = 21 := rfl
  simp; omega
theorem freshV_there (w : World) (c : Cfg) (l : Int) (v : Value) : (w.alloc (.cells zeroV.toArray 53)).there w.heap.size 0 (refCells c l v).toArray.size := by
  have := freshV_there' w c l v
  simpa using this
theorem freshV_below (w : World) (cs : List Value) : Below w.heap.size w (freshV w cs) := ((Upd.refl [w.heap.size] _).setCells (by simp) _ _).toBelow ((Below.refl _ _).alloc (Nat.le_refl _) _) (by simp) (by simp)
theorem freshV_cel (w : World) (c : Cfg) (l : Int) (v : Value) : Cel (freshV w (refCells c l v)) w.heap.size (refCells c l v) := by
  have h := (Cel.new w 53 zeroV).sets (refCells c l v) 0
  exact h
theorem vRow' (c : Cfg) (last : Int) (lv : Value) : (Try.prog.info? 53).map (·.size) = some (refCells c last lv).toArray.size := vRow c last lv
theorem v_one (c : Cfg) (l : Int) (h1 : c.tv.oneCell' = true) (h2 : c.lv.oneCell' = true) : (refCells c l (.slice none 0 0)).toArray.all (·.oneCell') = true := by
  refine all_oneCell_toArray fun v hv => ?_
  rcases List.mem_append.1 hv with hv | hv
  · have h3 := cfg_one c h1 h2
    rw [Array.all_eq_true'] at h3
    exact h3 v (by simpa using hv)
  · simp only [List.mem_cons, List.not_mem_nil, or_false] at hv
    rcases hv with rfl | rfl <;> rfl
theorem rright_early (w : World) (c : Cfg) (hin : c.In w) (hf : c.Few) (last : Int) (v : Value) (A : List Iv) (h : checkv c ≠ 0 ∨ last < 0) :
    Calls Try.prog 24 #[.agg c.cells.toArray, v, .int .i64 last] w fun e w' => e = .returned (.bool (rightI c last A)) ∧ Below w.heap.size w w' := by
  have hcA := CfgAt.new c w
  have hb1 : Below w.heap.size w (w.alloc (.cells c.cells.toArray 25)) := (Below.refl _ _).alloc (Nat.le_refl _) _
  have HR := Lib.hid hcA.range
  have HB1 := Lib.hid hb1
  have KR := Lib.hid (right31_any _ c (hin.below hb1) hf)
  have HE := Lib.hid (show rightI c last A = false from by
    unfold rightI
    rcases h with h | h
    · rw [decide_eq_false h]; rfl
    · rw [decide_eq_false (show ¬ 0 ≤ last by omega)]; simp)
  obtain ⟨W1, hW1⟩ : ∃ W1, W1 = w.alloc (.cells c.cells.toArray 25) := ⟨_, rfl⟩
  rw [← hW1] at KR HR HB1
  clear hcA hb1 hin hf
  by_cases hck : checkv c = 0
  · have hl : last < 0 := by rcases h with h | h; exact absurd hck h; exact h
    have q1 : decide (last < 0) = true := by simp; omega
    have q0 : (checkv c == 0) = true := by simp [hck]
    rw [q0] at KR
    clear h hck hl q0
    go_enter Try.func24, Try.ntmps24
    go_upto_region 1 with fail
    show Code.wp _ _ _ _ (w.alloc (.cells c.cells.toArray 25))
    rw [← hW1]
    clear hW1
    go_wp2_with (first
      | (refine wpList_load_mid rfl 25 _ rfl w.heap.size 0 rfl c.cells _ HR.out Try.underlying25 rfl (cfgRow c) ?_)
      | (go_at_call 16; refine KR.out.mono ?_; rintro e W2 ⟨rfl, hb2⟩))
    go_ret
    exact ⟨by rw [HE.out]; rfl, bthen' HB1.out hb2⟩
  · have q0 : (checkv c == 0) = false := by simp [hck]
    rw [q0] at KR
    clear h hck q0
    go_enter Try.func24, Try.ntmps24
    go_upto_region 1 with fail
    show Code.wp _ _ _ _ (w.alloc (.cells c.cells.toArray 25))
    rw [← hW1]
    clear hW1
    go_wp2_with (first
      | (refine wpList_load_mid rfl 25 _ rfl w.heap.size 0 rfl c.cells _ HR.out Try.underlying25 rfl (cfgRow c) ?_)
      | (go_at_call 16; refine KR.out.mono ?_; rintro e W2 ⟨rfl, hb2⟩))
    go_ret
    exact ⟨by rw [HE.out]; rfl, bthen' HB1.out hb2⟩
/-- What is so between the rounds. -/
structure RgtS (W1 wr : World) (B b7 : Nat) (c : Cfg) (cur : Int) (u : Value) (L : List Iv) : Prop where
  low : Below W1.heap.size W1 wr
  cel : Cel wr b7 (refCells c cur u)
  own : Owns ivR B wr u L
  lt : W1.heap.size ≤ b7 ∧ b7 < B ∧ B ≤ wr.heap.size
  ok : InvOk c cur L
theorem RgtS.below' {W1 wr w' : World} {B b7 : Nat} {c : Cfg} {cur : Int} {u : Value} {L : List Iv} (h : RgtS W1 wr B b7 c cur u L) (hb : Below wr.heap.size wr w') : RgtS W1 w' B b7 c cur u L :=
  ⟨bthen' h.low hb, h.cel.below hb, h.own.below hb, ⟨h.lt.1, h.lt.2.1, Nat.le_trans h.lt.2.2 hb.size⟩, h.ok⟩
set_option maxHeartbeats 16000000 in
theorem rright_go (w : World) (c : Cfg) (hin : c.In w) (hf : c.Few) (last : Int) (hlast : last ≤ 9223372036854775807) (v : Value) (A : List Iv) (hv : Reads ivR w v A) (hA : ∀ x ∈ A, IvIn x) (hAl : A.length ≤ 1000) (hck : checkv c = 0) (hl : 0 ≤ last) :
    Calls Try.prog 24 #[.agg c.cells.toArray, v, .int .i64 last] w fun e w' => e = .returned (.bool (rightI c last A)) ∧ Below w.heap.size w w' := by
  have hcA := CfgAt.new c w
  have hb1 : Below w.heap.size w (w.alloc (.cells c.cells.toArray 25)) := (Below.refl _ _).alloc (Nat.le_refl _) _
  have HR := Lib.hid hcA.range
  have HB1 := Lib.hid hb1
  have KR := Lib.hid (right31_any _ c (hin.below hb1) hf)
  have HE0 := Lib.hid (show rightI c last A = lokF c last 0 [] A from by unfold rightI; rw [decide_eq_true hck, decide_eq_true hl]; simp)
  have q1 : decide (last < 0) = false := by simp; omega
  have HIN := Lib.hid (hin.below hb1)
  have HV := Lib.hid (hv.below hb1)
  have HA := Lib.hid hA
  have hcap := cap_of hck
  have HCK := Lib.hid hck
  have q0 : (checkv c == 0) = true := by simp [hck]
  rw [q0] at KR
  obtain ⟨W1, hW1⟩ : ∃ W1, W1 = w.alloc (.cells c.cells.toArray 25) := ⟨_, rfl⟩
  rw [← hW1] at KR HR HB1 HIN HV
  obtain ⟨av, capv, rfl⟩ := hv.form
  obtain ⟨at', capt, hvt⟩ := hin.t.form
  obtain ⟨al', capl, hvl⟩ := hin.l.form
  have HONE := Lib.hid (v_one c 0 (by rw [hvt]; rfl) (by rw [hvl]; rfl))
  clear hcA hb1 hin hv hck hf hA q0 hvt hvl
  go_enter Try.func24, Try.ntmps24
  go_upto_region 1 with fail
  show Code.wp _ _ _ _ (w.alloc (.cells c.cells.toArray 25))
  rw [← hW1]
  clear hW1
  go_upto_region 3 with (first
    | (refine wpList_load_mid rfl 25 _ rfl w.heap.size 0 rfl c.cells _ HR.out Try.underlying25 rfl (cfgRow c) ?_)
    | (go_at_call 16; refine KR.out.mono ?_; rintro e W2 ⟨rfl, hb2⟩))
  obtain ⟨bc, hbc⟩ : ∃ bc, bc = w.heap.size := ⟨_, rfl⟩
  rw [← hbc] at HR ⊢
  have HR2 := Lib.hid (below_range hb2 HR.out)
  clear hbc KR
  go_upto_region 4 with (first
    | (refine wpList_load_mid rfl 25 _ rfl bc 0 rfl c.cells _ HR2.out Try.underlying25 rfl (cfgRow c) ?_)
    | (refine wl_built rfl 53 _ rfl [(0, .agg c.cells.toArray)] (by simp [Act.eval, Act.put]) _ (built_v c) ?_)
    | (refine wpList_store_mid rfl 53 _ _ rfl W2.heap.size 0 (refCells c 0 (.slice none 0 0)).toArray rfl rfl (freshV_there W2 c 0 _) (vRow' c 0 _) HONE.out ?_; show wpList _ _ _ _ _ (freshV W2 (refCells c 0 (.slice none 0 0))); have hc3 := freshV_cel W2 c 0 (.slice none 0 0); have hb3 := freshV_below W2 (refCells c 0 (.slice none 0 0)); generalize freshV W2 (refCells c 0 (.slice none 0 0)) = W3 at hc3 hb3 ⊢))
  obtain ⟨b7, hb7⟩ : ∃ b7, b7 = W2.heap.size := ⟨_, rfl⟩
  rw [← hb7] at hc3 ⊢
  have hl7 := hc3.lt (by simp [refCells])
  have hs2 := hb2.size
  obtain ⟨B, hB⟩ : ∃ B, B = W3.heap.size := ⟨_, rfl⟩
  have HG3 := Lib.hid (show RgtS W1 W3 B b7 c 0 (.slice none 0 0) [] from ⟨bthen' hb2 hb3, hc3, Owns.nil _ _ _, ⟨by omega, by omega, by omega⟩, InvOk.nil HCK.out⟩)
  clear hb2 hb3 hc3 hb7 hl7 hs2 hB HR2
  go_wp2_with fail
  go_loopw [8] (fun i wr => ∃ (k : Nat) (cur : Int) (u : Value), k ≤ A.length ∧ i = .int .i64 k ∧ RgtS W1 wr B b7 c cur u (A.take k) ∧ Hid (rightI c last A = lokF c last cur (A.take k) (A.drop k)) ∧ cur ≤ last) (fun i _ => A.length - lenI i)
  case atStart => exact ⟨0, 0, _, by omega, rfl, HG3.out, Lib.hid HE0.out, hl⟩
  case round =>
    clear HG3 HE0
    obtain ⟨k, cur, u, hk, rfl, hG, HE, hcl⟩ := hrel
    have HG := Lib.hid hG
    have hlow := hG.low
    by_cases hlt : k < A.length
    · obtain ⟨x, hx⟩ : ∃ x, A[k]? = some x := ⟨_, List.getElem?_eq_getElem hlt⟩
      have HIA := Lib.hid (HA.out x (List.mem_of_getElem? hx))
      have HLS := Lib.hid (lok_step (c := c) (last := last) (cur := cur) (L := A.take k) hx)
      have HTS := Lib.hid (take_snoc hx)
      obtain ⟨b, off, rfl, hr0⟩ := HV.out.at hx
      have HR0 := Lib.hid (below_range hlow hr0)
      have hLl : (A.take k).length = k := by rw [List.length_take]; omega
      obtain ⟨a5, c5, rfl⟩ := hG.own.form
      rw [hLl] at HG
      clear hx hr0 hG
      go_upto_region 8 with (first
        | (refine wpList_load_mid rfl 32 _ rfl b (off + k * ivR.n) rfl (ivR.cells x) _ HR0.out Try.underlying32 rfl (ivOk.row x) ?_)
        | (refine wpList_store_mid rfl 32 _ _ rfl wr.heap.size 0 (ivR.cells x).toArray rfl rfl (freshR_there ivOk wr x) (ivOk.row' x) (ivOk.one' x) ?_; show wpList _ _ _ _ _ (freshR ivR wr x); have hx4 := fresh_cel wr x; have hb4 := freshR_below (R := ivR) wr x; generalize freshR ivR wr x = W4 at hx4 hb4 ⊢))
      obtain ⟨b9, hb9⟩ : ∃ b9, b9 = wr.heap.size := ⟨_, rfl⟩
      rw [← hb9] at hx4 ⊢
      have HG4 := Lib.hid (HG.out.below' hb4)
      have HX4 := Lib.hid hx4
      have hlt7 := HG.out.lt
      have hne9 : b9 ≠ b7 ∧ B ≤ b9 := by omega
      have hno9 : ∀ kk, (Value.slice a5 k c5).ownBlock = some kk → kk ≠ b9 ∧ kk ≠ b7 := fun kk h9 => by have := HG.out.own.lt kk h9; omega
      have HNO9 := Lib.hid hno9
      have hl9 : b9 < W4.heap.size := hx4.lt (by simp [Rec.cells, ivR, Value.cells])
      obtain ⟨y0, y1, y2, y3, y4⟩ := iv0_parts hx4.range
      obtain ⟨-, -, -, -, c4, -⟩ := nineteen (below_range HG4.out.low HR.out)
      have v19 := HG4.out.cel.get (i := 19) rfl
      have KC := Lib.hid (rcheck_any W4 c (HIN.out.below HG4.out.low) cur _ (A.take k) (HG4.out.own.lts ivOk) (by omega) x.tn x.nm x.wt HIA.out.1 (LdI.bound HG4.out.ok (by omega) x.tn))
      have HRV := Lib.hid HG4.out.cel.range
      obtain ⟨q, hq⟩ : ∃ q, q = chkI c (A.take k) x.tn x.nm x.wt := ⟨_, rfl⟩
      rw [← hq] at KC
      clear hb4 hx4 HR0 HG hb9 hno9
      by_cases h0 : x.no ≤ cur
      · have HE2 := Lib.hid (show rightI c last A = false from by rw [HE.out, HLS.out]; rw [if_pos h0])
        have e00 : (decide (x.no ≤ cur)) = true := by simp; omega
        clear h0 hq
        go_wp2_with (first
          | (with_reducible refine at_load 53 ?_; refine wl_load_mid rfl 53 _ rfl b7 0 rfl (refCells c cur (.slice a5 k c5)) _ HRV.out Try.underlying53 rfl (vRow c cur _) ?_)
          | (go_at_call 43; refine KC.out.mono ?_; rintro e W5 ⟨rfl, hb5⟩; have z4 := below_cell hb5 y4; have zc := below_cell hb5 c4))
        go_ret
        exact ⟨by rw [HE2.out]; rfl, bthen' HB1.out HG4.out.low⟩
      · have e00 : (decide (x.no ≤ cur)) = false := by simp; omega
        by_cases h1 : last < x.no
        · have HE2 := Lib.hid (show rightI c last A = false from by rw [HE.out, HLS.out]; rw [if_neg h0]; rw [if_pos h1])
          have e10 : (decide (x.no > last)) = true := by simp; omega
          have e11 : (decide (last < x.no)) = true := by simp; omega
          clear h0 h1 hq
          go_wp2_with (first
            | (with_reducible refine at_load 53 ?_; refine wl_load_mid rfl 53 _ rfl b7 0 rfl (refCells c cur (.slice a5 k c5)) _ HRV.out Try.underlying53 rfl (vRow c cur _) ?_)
            | (go_at_call 43; refine KC.out.mono ?_; rintro e W5 ⟨rfl, hb5⟩; have z4 := below_cell hb5 y4; have zc := below_cell hb5 c4))
          go_ret
          exact ⟨by rw [HE2.out]; rfl, bthen' HB1.out HG4.out.low⟩
        · have e10 : (decide (x.no > last)) = false := by simp; omega
          have e11 : (decide (last < x.no)) = false := by simp; omega
          by_cases h2 : q ≠ 0
          · have HE2 := Lib.hid (show rightI c last A = false from by rw [HE.out, HLS.out]; rw [if_neg h0]; rw [if_neg h1]; rw [if_pos (hq ▸ h2)])
            have e2 : (q != 0) = true := by simp; omega
            clear h0 h1 h2 hq
            go_wp2_with (first
              | (with_reducible refine at_load 53 ?_; refine wl_load_mid rfl 53 _ rfl b7 0 rfl (refCells c cur (.slice a5 k c5)) _ HRV.out Try.underlying53 rfl (vRow c cur _) ?_)
              | (go_at_call 43; refine KC.out.mono ?_; rintro e W5 ⟨rfl, hb5⟩; have z4 := below_cell hb5 y4; have zc := below_cell hb5 c4))
            go_ret
            exact ⟨by rw [HE2.out]; rfl, bthen' HB1.out (HG4.out.below' hb5).low⟩
          · have e2 : (q != 0) = false := by simp; omega
            by_cases h3 : x.ld < 0
            · have HE2 := Lib.hid (show rightI c last A = false from by rw [HE.out, HLS.out]; rw [if_neg h0]; rw [if_neg h1]; rw [if_neg (fun h => h (hq ▸ Classical.not_not.1 h2))]; rw [if_pos h3])
              have e30 : (decide (x.ld < 0)) = true := by simp; omega
              clear h0 h1 h2 h3 hq
              go_wp2_with (first
                | (with_reducible refine at_load 53 ?_; refine wl_load_mid rfl 53 _ rfl b7 0 rfl (refCells c cur (.slice a5 k c5)) _ HRV.out Try.underlying53 rfl (vRow c cur _) ?_)
                | (go_at_call 43; refine KC.out.mono ?_; rintro e W5 ⟨rfl, hb5⟩; have z4 := below_cell hb5 y4; have zc := below_cell hb5 c4))
              go_ret
              exact ⟨by rw [HE2.out]; rfl, bthen' HB1.out (HG4.out.below' hb5).low⟩
            · have e30 : (decide (x.ld < 0)) = false := by simp; omega
              by_cases h4 : c.cap < x.ld
              · have HE2 := Lib.hid (show rightI c last A = false from by rw [HE.out, HLS.out]; rw [if_neg h0]; rw [if_neg h1]; rw [if_neg (fun h => h (hq ▸ Classical.not_not.1 h2))]; rw [if_neg h3]; rw [if_pos h4])
                have e40 : (decide (x.ld > c.cap)) = true := by simp; omega
                have e41 : (decide (c.cap < x.ld)) = true := by simp; omega
                clear h0 h1 h2 h3 h4 hq
                go_wp2_with (first
                  | (with_reducible refine at_load 53 ?_; refine wl_load_mid rfl 53 _ rfl b7 0 rfl (refCells c cur (.slice a5 k c5)) _ HRV.out Try.underlying53 rfl (vRow c cur _) ?_)
                  | (go_at_call 43; refine KC.out.mono ?_; rintro e W5 ⟨rfl, hb5⟩; have z4 := below_cell hb5 y4; have zc := below_cell hb5 c4))
                go_ret
                exact ⟨by rw [HE2.out]; rfl, bthen' HB1.out (HG4.out.below' hb5).low⟩
              · have e40 : (decide (x.ld > c.cap)) = false := by simp; omega
                have e41 : (decide (c.cap < x.ld)) = false := by simp; omega
                have q0 : q = 0 := Classical.not_not.1 h2
                have hox := HG4.out.ok.add (x := x) (by omega) (by omega) (hq ▸ q0) (by omega) (by omega) HIA.out.1
                rw [HTS.out] at hox
                have HOX := Lib.hid hox
                obtain ⟨ht0, ht1⟩ := (chk_zero (hq ▸ q0)).1
                obtain ⟨m, hm⟩ : ∃ m : Nat, x.tn = (m : Int) := ⟨x.tn.toNat, by omega⟩
                obtain ⟨T0, hT0⟩ : ∃ T0, c.T[m]? = some T0 := ⟨_, List.getElem?_eq_getElem (by omega)⟩
                have hml : m < c.T.length := (List.getElem?_eq_some_iff.1 hT0).1
                have hquo : quota c x.tn = T0.q := by unfold quota; rw [hm, Int.toNat_natCast, hT0]
                have HT := Lib.hid (fun (W : World) (hb : Below W1.heap.size W1 W) => show ∃ capt bt ot, c.tv = .slice (some ⟨bt, ot, none⟩) c.T.length capt ∧ W.cell? ⟨bt, ot + m * 3 + 2, none⟩ = some (.int .i64 T0.q) from by
                  obtain ⟨at', capt, hvt⟩ := HIN.out.t.form
                  have htr := (HIN.out.below hb).t
                  rw [hvt] at htr
                  obtain ⟨bt, ot, hct, hrt⟩ := htr.at hT0
                  subst hct
                  exact ⟨capt, bt, ot, hvt, ten_q hrt⟩)
                have HE2 := Lib.hid (show rightI c last A = if quota c x.tn < loadT (A.take k ++ [x]) x.tn then false else lokF c last x.no (A.take k ++ [x]) (A.drop (k + 1)) from by rw [HE.out, HLS.out]; rw [if_neg h0]; rw [if_neg h1]; rw [if_neg (fun h => h (hq ▸ Classical.not_not.1 h2))]; rw [if_neg h3]; rw [if_neg h4])
                rw [HTS.out, hquo] at HE2
                have hno2 : x.no ≤ last := by omega
                have HMT := Lib.hid hm
                clear hm h0 h1 h2 h3 h4 hq q0 hox ht0 ht1 hT0 hquo HE HLS HIA
                go_upto_region 10 with (first
                  | (with_reducible refine at_load 53 ?_; refine wl_load_mid rfl 53 _ rfl b7 0 rfl (refCells c cur (.slice a5 k c5)) _ HRV.out Try.underlying53 rfl (vRow c cur _) ?_)
                  | (go_at_call 43; refine KC.out.mono ?_; rintro e W5 ⟨rfl, hb5⟩; have z4 := below_cell hb5 y4; have zc := below_cell hb5 c4))
                have HX5 := Lib.hid (HX4.out.below hb5)
                have HG5 := Lib.hid (HG4.out.below' hb5)
                have hl5 : b9 < W5.heap.size := Nat.lt_of_lt_of_le hl9 hb5.size
                have hB5 : B ≤ W5.heap.size := HG5.out.lt.2.2
                have HX5R := Lib.hid HX5.out.range
                have v20 := HG5.out.cel.get (i := 20) rfl
                have HO5 := Lib.hid HG5.out.own
                clear hb5 KC HG4 HX4 z4 zc y0 y1 y2 y3 y4 c4 v19 HRV
                go_upto_region 11 with (first
                  | ((with_reducible refine at_load 32 ?_); refine wpList_load_mid rfl 32 _ rfl b9 0 rfl (ivR.cells x) _ HX5R.out Try.underlying32 rfl (ivOk.row x) ?_)
                  | (refine wl_build_rec ivOk rfl _ rfl x rfl ?_; have hx6 := built_range (R := ivR) (w := W5) x; have hb6 : Below W5.heap.size W5 (W5.alloc (.cells (ivR.val x).cells ivR.ty)) := (Below.refl _ _).alloc (Nat.le_refl _) _; generalize W5.alloc (.cells (ivR.val x).cells ivR.ty) = W6 at hx6 hb6 ⊢; have hO6 := HO5.out.below hb6; have hs6 := hb6.size)
                  | (refine wl_append_rec ivOk rfl _ _ rfl B _ (A.take k) rfl hO6 W5.heap.size 0 1 x rfl hx6 (by omega) (by omega) ?_; intro g7 cap7 W7 hO7 hg7 hat7; rw [hLl] at hO7 ⊢; have HC7 := Lib.hid ((HG5.out.cel.below hb6).upd (upd_grown' hg7) (fun h9 => (HNO9.out b7 (Option.mem_toList.1 h9)).2 rfl)); have HX7 := Lib.hid ((HX5.out.below hb6).upd (upd_grown' hg7) (fun h9 => (HNO9.out b9 (Option.mem_toList.1 h9)).1 rfl)); have HL7 := Lib.hid ((bthen' HG5.out.low hb6).grown hg7 (Nat.le_trans HG5.out.low.size hb6.size) (fun k hk => by have := hO6.lt k hk; have := HG5.out.lt; omega)); have hs7 := hg7.size; have g20 := HC7.out.get (i := 20) rfl; have g20f := HC7.out.free (i := 20) rfl))
                have hne7 : g7 ≠ b7 := fun e => by have := hO7.lt g7 rfl; omega
                have hc8 := HC7.out.set 20 (.slice (some ⟨g7, 0, none⟩) (k + 1) cap7)
                have hx8 := HX7.out.far (p := ⟨b7, 20, none⟩) hne9.1 (.slice (some ⟨g7, 0, none⟩) (k + 1) cap7)
                have hO8 : Owns ivR B (W7.setCell ⟨b7, 20, none⟩ (.slice (some ⟨g7, 0, none⟩) (k + 1) cap7)) (.slice (some ⟨g7, 0, none⟩) (k + 1) cap7) (A.take k ++ [x]) := hO7.upd (F := [b7]) ((Upd.refl [b7] _).setCell (by simp) _) (fun kk hk => by obtain rfl : g7 = kk := (by simpa [Value.ownBlock] using hk); simpa using hne7)
                have hL8 : Below W1.heap.size W1 (W7.setCell ⟨b7, 20, none⟩ (.slice (some ⟨g7, 0, none⟩) (k + 1) cap7)) := HL7.out.setCell hlt7.1 _
                rw [HTS.out] at hO8
                have hs8 : W7.heap.size ≤ (W7.setCell ⟨b7, 20, none⟩ (.slice (some ⟨g7, 0, none⟩) (k + 1) cap7)).heap.size := by simp [World.setCell]
                replace hc8 : Cel (W7.setCell ⟨b7, 20, none⟩ (.slice (some ⟨g7, 0, none⟩) (k + 1) cap7)) b7 (refCells c cur (.slice (some ⟨g7, 0, none⟩) (k + 1) cap7)) := hc8
                generalize W7.setCell ⟨b7, 20, none⟩ (.slice (some ⟨g7, 0, none⟩) (k + 1) cap7) = W8 at hc8 hx8 hO8 hL8 hs8 ⊢
                have HC8 := Lib.hid hc8
                have HX8 := Lib.hid hx8
                have HO8 := Lib.hid hO8
                have HL8 := Lib.hid hL8
                have hB8 : B ≤ W8.heap.size := by omega
                have g19 := hc8.get (i := 19) rfl
                have g19f := hc8.free (i := 19) rfl
                have y0 := (iv0_parts hx8.range).1
                clear hc8 hx8 hO8 hL8 hs8 g20 g20f HC7 HX7 HL7 hO7 hg7 hat7 hO6 hs6 hx6 hb6 v20 HO5 HX5R HX5 HG5 hs7 hl5
                go_upto_region 12 with fail
                have hc9 : Cel (W8.setCell ⟨b7, 19, none⟩ (.int .i64 x.no)) b7 (refCells c x.no (.slice (some ⟨g7, 0, none⟩) (k + 1) cap7)) := HC8.out.set 19 (.int .i64 x.no)
                have hx9 := HX8.out.far (p := ⟨b7, 19, none⟩) hne9.1 (.int .i64 x.no)
                have hO9 : Owns ivR B (W8.setCell ⟨b7, 19, none⟩ (.int .i64 x.no)) (.slice (some ⟨g7, 0, none⟩) (k + 1) cap7) (A.take (k + 1)) := HO8.out.upd (F := [b7]) ((Upd.refl [b7] _).setCell (by simp) _) (fun kk hk => by obtain rfl : g7 = kk := (by simpa [Value.ownBlock] using hk); simpa using hne7)
                have hL9 : Below W1.heap.size W1 (W8.setCell ⟨b7, 19, none⟩ (.int .i64 x.no)) := HL8.out.setCell hlt7.1 _
                have hs9 : B ≤ (W8.setCell ⟨b7, 19, none⟩ (.int .i64 x.no)).heap.size := by simpa [World.setCell] using hB8
                generalize W8.setCell ⟨b7, 19, none⟩ (.int .i64 x.no) = W9 at hc9 hx9 hO9 hL9 hs9 ⊢
                have HC9 := Lib.hid hc9
                have HX9 := Lib.hid hx9
                have hm := HMT.out
                obtain ⟨-, z1, -, -, -⟩ := iv0_parts hx9.range
                rw [hm] at z1
                obtain ⟨capt, bt, ot, hvt, gq⟩ := HT.out _ hL9
                obtain ⟨c0, -⟩ := nineteen (below_range hL9 HR.out)
                rw [hvt] at c0
                have f1 := fun (z : Later W9) => z.cell z1
                have f2 := fun (z : Later W9) => z.cell c0
                have f3 := fun (z : Later W9) => z.cell gq
                have hLl2 : (A.take (k + 1)).length = k + 1 := by rw [List.length_take]; omega
                have KL := Lib.hid (fun (W : World) (hb : Below W9.heap.size W9 W) => rload_any W c x.no (.slice (some ⟨g7, 0, none⟩) (k + 1) cap7) (A.take (k + 1)) ((hO9.lts ivOk).below hb) (by omega) x.tn (LdI.bound HOX.out (by omega) x.tn))
                have RV := Lib.hid (fun (w' : World) (h : ∃ z : Later W9, w' = z.w) => (show w'.rangeAt b7 0 (refCells c x.no (.slice (some ⟨g7, 0, none⟩) (k + 1) cap7)) from by obtain ⟨zz, rfl⟩ := h; exact below_range zz.h hc9.range))
                rw [hm] at KL HE2
                clear hm
                obtain ⟨ld, hld⟩ : ∃ ld, ld = loadT (A.take (k + 1)) (m : Int) := ⟨_, rfl⟩
                rw [← hld] at KL HE2
                have HG9 := Lib.hid (show RgtS W1 W9 B b7 c x.no (.slice (some ⟨g7, 0, none⟩) (k + 1) cap7) (A.take (k + 1)) from ⟨hL9, hc9, hO9, ⟨hlt7.1, hlt7.2.1, hs9⟩, HOX.out⟩)
                clear hc9 hx9 hO9 hL9 hs9 z1 c0 gq hvt hld HT HC8 HX8 HO8 HL8 g19 g19f y0 hB8 HC9 HX9
                by_cases hqq : T0.q < ld
                · have r1 : decide (T0.q < ld) = true := by simp; omega
                  have r1' : decide (ld > T0.q) = true := by simp; omega
                  have HE3 := Lib.hid (show rightI c last A = false from by rw [HE2.out, if_pos hqq])
                  clear hqq HE2
                  (try simp only [Act.put])
                  refine wp_region_later (by kernel_rfl) (by kernel_rfl) (Below.refl _ _) ?_
                  repeat (first
                    | go_big_quiet_skip
                    | (go_big_quiet_want; first
                      | (refine quiet_load_mid 53 _ rfl b7 0 rfl (refCells c x.no (.slice (some ⟨g7, 0, none⟩) (k + 1) cap7)) _ RV.out Try.underlying53 rfl (vRow c x.no _) ?_; simp only [Act.put, List.setIfInBounds_toArray, List.set_cons_succ, List.set_cons_zero]; go_big_quiet_on)
                      | (go_big_quiet_op; first | go_big_quiet_on | go_big_quiet_call ((go_at_call 41; exact Calls.later (KL.out _ (Later.h _)))))))
                  refine wpQuiet_nil ?_
                  rintro ⟨W10, hb10⟩
                  dsimp only
                  clear f1 f2 f3 RV KL
                  go_wp2_with fail
                  go_ret
                  exact ⟨by rw [HE3.out]; rfl, bthen' HB1.out (bthen' HG9.out.low hb10)⟩
                · have r1 : decide (T0.q < ld) = false := by simp; omega
                  have r1' : decide (ld > T0.q) = false := by simp; omega
                  have HE3 := Lib.hid (show rightI c last A = lokF c last x.no (A.take (k + 1)) (A.drop (k + 1)) from by rw [HE2.out, if_neg hqq])
                  clear hqq HE2
                  (try simp only [Act.put])
                  refine wp_region_later (by kernel_rfl) (by kernel_rfl) (Below.refl _ _) ?_
                  repeat (first
                    | go_big_quiet_skip
                    | (go_big_quiet_want; first
                      | (refine quiet_load_mid 53 _ rfl b7 0 rfl (refCells c x.no (.slice (some ⟨g7, 0, none⟩) (k + 1) cap7)) _ RV.out Try.underlying53 rfl (vRow c x.no _) ?_; simp only [Act.put, List.setIfInBounds_toArray, List.set_cons_succ, List.set_cons_zero]; go_big_quiet_on)
                      | (go_big_quiet_op; first | go_big_quiet_on | go_big_quiet_call ((go_at_call 41; exact Calls.later (KL.out _ (Later.h _)))))))
                  refine wpQuiet_nil ?_
                  rintro ⟨W10, hb10⟩
                  dsimp only
                  clear f1 f2 f3 RV KL
                  have HG10 := Lib.hid (HG9.out.below' hb10)
                  clear hb10 HG9
                  go_wp2_with fail
                  go_roundw
                  case rel => exact ⟨k + 1, x.no, _, by omega, by go_num, HG10.out, HE3, hno2⟩
                  case measure => simp [lenI]; omega
    · obtain rfl : k = A.length := by omega
      have HE2 := Lib.hid (show rightI c last A = true from by rw [HE.out, List.drop_length]; rfl)
      obtain ⟨a5, c5, rfl⟩ := hG.own.form
      have hLl : (A.take A.length).length = A.length := by rw [List.length_take]; omega
      clear HE hG HG
      go_wp2_with fail
      go_ret
      exact ⟨by rw [HE2.out]; rfl, bthen' HB1.out hlow⟩
theorem rright_any (w : World) (c : Cfg) (hin : c.In w) (hf : c.Few) (last : Int) (hlast : last ≤ 9223372036854775807) (v : Value) (A : List Iv) (hv : Reads ivR w v A) (hA : ∀ x ∈ A, IvIn x) (hAl : A.length ≤ 1000) :
    Calls Try.prog 24 #[.agg c.cells.toArray, v, .int .i64 last] w fun e w' => e = .returned (.bool (rightI c last A)) ∧ Below w.heap.size w w' := by
  by_cases hck : checkv c = 0
  · by_cases hl : last < 0
    · exact rright_early w c hin hf last v A (.inr hl)
    · exact rright_go w c hin hf last hlast v A hv hA hAl hck (by omega)
  · exact rright_early w c hin hf last v A (.inl hck)
end Go.Proofs.Ytogajmbkjojdhaa

/-! The law InvocLoads. -/
set_option linter.unusedVariables false
set_option linter.unusedSimpArgs false
set_option maxRecDepth 100000
namespace Go.Proofs.Ytogajmbkjojdhaa
open Go.RowKit

theorem reads_nil31 (w : World) : Reads iaR w (.slice none 0 0) [] := (Owns.nil iaR 0 w).lts iaOk
theorem dec_self {α : Type} (A : α) (i : Decidable (A = A)) : @decide (A = A) i = true := by simp
def PostL (w : World) (e : Ending) (w' : World) : Prop := e = .returned (.bool true) ∧ Below w.heap.size w w'
set_option maxHeartbeats 4000000 in
theorem loads_large (w : World) (c : Cfg) (hin : c.In w) (v : Value) (A : List Iv) (hv : Reads ivR w v A) (last : Int) (hlg : largeB c [] = true) :
    Calls Try.prog 5 #[.agg c.cells.toArray, v, .int .i64 last] w (PostL w) := by
  have hcA := CfgAt.new c w
  have hb1 : Below w.heap.size w (w.alloc (.cells c.cells.toArray 25)) := (Below.refl _ _).alloc (Nat.le_refl _) _
  have HR := Lib.hid hcA.range
  have HB1 := Lib.hid hb1
  have KG := Lib.hid (large_any _ c (hin.below hb1) _ [] (reads_nil31 _) (by simp) (by simp))
  rw [hlg] at KG
  obtain ⟨W1, hW1⟩ : ∃ W1, W1 = w.alloc (.cells c.cells.toArray 25) := ⟨_, rfl⟩
  rw [← hW1] at KG HR HB1
  obtain ⟨av, capv, rfl⟩ := hv.form
  clear hcA hb1 hin hv hlg
  go_enter Try.func5, Try.ntmps5
  go_upto_region 1 with fail
  show Code.wp _ _ _ _ (w.alloc (.cells c.cells.toArray 25))
  rw [← hW1]
  clear hW1
  go_wp2_with (first
    | ((with_reducible refine at_load 25 ?_); refine wpList_load_mid rfl 25 _ rfl w.heap.size 0 rfl c.cells _ HR.out Try.underlying25 rfl (cfgRow c) ?_)
    | (go_at_call 8; refine (live31_any _).mono ?_; rintro e W4 ⟨rfl, hb4⟩)
    | (go_at_call 7; refine KG.out.mono ?_; rintro e W3 ⟨rfl, hb3⟩))
  go_ret
  exact ⟨rfl, bthen' (bthen' HB1.out hb3) hb4⟩
set_option maxHeartbeats 4000000 in
theorem loads_long (w : World) (c : Cfg) (hin : c.In w) (v : Value) (A : List Iv) (hv : Reads ivR w v A) (last : Int) (hlg : largeB c [] = false) (hA : 60 < A.length) :
    Calls Try.prog 5 #[.agg c.cells.toArray, v, .int .i64 last] w (PostL w) := by
  have hcA := CfgAt.new c w
  have hb1 : Below w.heap.size w (w.alloc (.cells c.cells.toArray 25)) := (Below.refl _ _).alloc (Nat.le_refl _) _
  have HR := Lib.hid hcA.range
  have HB1 := Lib.hid hb1
  have KG := Lib.hid (large_any _ c (hin.below hb1) _ [] (reads_nil31 _) (by simp) (by simp))
  rw [hlg] at KG
  obtain ⟨W1, hW1⟩ : ∃ W1, W1 = w.alloc (.cells c.cells.toArray 25) := ⟨_, rfl⟩
  rw [← hW1] at KG HR HB1
  obtain ⟨av, capv, rfl⟩ := hv.form
  have q1 : decide ((60 : Int) < (A.length : Int)) = true := by simp; omega
  have q2 : decide ((A.length : Int) > (60 : Int)) = true := by simp; omega
  clear hcA hb1 hin hv hlg hA
  go_enter Try.func5, Try.ntmps5
  go_upto_region 1 with fail
  show Code.wp _ _ _ _ (w.alloc (.cells c.cells.toArray 25))
  rw [← hW1]
  clear hW1
  go_wp2_with (first
    | ((with_reducible refine at_load 25 ?_); refine wpList_load_mid rfl 25 _ rfl w.heap.size 0 rfl c.cells _ HR.out Try.underlying25 rfl (cfgRow c) ?_)
    | (go_at_call 8; refine (live31_any _).mono ?_; rintro e W4 ⟨rfl, hb4⟩)
    | (go_at_call 7; refine KG.out.mono ?_; rintro e W3 ⟨rfl, hb3⟩))
  go_ret
  exact ⟨rfl, bthen' (bthen' HB1.out hb3) hb4⟩
set_option maxHeartbeats 8000000 in
theorem loads_rest (w : World) (c : Cfg) (hin : c.In w) (v : Value) (A : List Iv) (hv : Reads ivR w v A) (hAi : ∀ a ∈ A, IvIn a) (last : Int) (hlast : last ≤ 9223372036854775807) (hlg : largeB c [] = false) (hA : A.length ≤ 60) :
    Calls Try.prog 5 #[.agg c.cells.toArray, v, .int .i64 last] w (PostL w) := by
  have hf := few_of hlg
  have hcA := CfgAt.new c w
  have hb1 : Below w.heap.size w (w.alloc (.cells c.cells.toArray 25)) := (Below.refl _ _).alloc (Nat.le_refl _) _
  have HR := Lib.hid hcA.range
  have HB1 := Lib.hid hb1
  have KG := Lib.hid (large_any _ c (hin.below hb1) _ [] (reads_nil31 _) (by simp) (by simp))
  rw [hlg] at KG
  have HIN := Lib.hid (hin.below hb1)
  have HV := Lib.hid (hv.below hb1)
  have HAI := Lib.hid hAi
  have HF := Lib.hid hf
  obtain ⟨W1, hW1⟩ : ∃ W1, W1 = w.alloc (.cells c.cells.toArray 25) := ⟨_, rfl⟩
  rw [← hW1] at KG HR HB1 HIN HV
  obtain ⟨av, capv, rfl⟩ := hv.form
  have q1 : decide ((60 : Int) < (A.length : Int)) = false := by simp; omega
  have q2 : decide ((A.length : Int) > (60 : Int)) = false := by simp; omega
  clear hcA hb1 hin hv hlg hAi hf
  go_enter Try.func5, Try.ntmps5
  go_upto_region 1 with fail
  show Code.wp _ _ _ _ (w.alloc (.cells c.cells.toArray 25))
  rw [← hW1]
  clear hW1
  go_upto_block 0 with (first
    | ((with_reducible refine at_load 25 ?_); refine wpList_load_mid rfl 25 _ rfl w.heap.size 0 rfl c.cells _ HR.out Try.underlying25 rfl (cfgRow c) ?_)
    | (go_at_call 7; refine KG.out.mono ?_; rintro e W2 ⟨rfl, hb2⟩))
  have HR2 := Lib.hid (below_range hb2 HR.out)
  have HB2 := Lib.hid (bthen' HB1.out hb2)
  have HV2 := Lib.hid (HV.out.below hb2)
  have HIN2 := Lib.hid (HIN.out.below hb2)
  clear HR HB1 HV HIN hb2 KG q1 q2
  obtain ⟨bc, hbc⟩ : ∃ bc, bc = w.heap.size := ⟨_, rfl⟩
  rw [← hbc] at HR2 ⊢
  clear hbc
  go_wp2_with fail
  go_loopw [7] (fun i wr => ∃ k : Nat, k ≤ A.length ∧ i = .int .i64 k ∧ wr = W2) (fun i _ => A.length - lenI i)
  case atStart => exact ⟨0, by omega, rfl, rfl⟩
  case round =>
    obtain ⟨k, hk, rfl, rfl⟩ := hrel
    by_cases hlt : k < A.length
    · obtain ⟨a, ha⟩ : ∃ a, A[k]? = some a := ⟨_, List.getElem?_eq_getElem hlt⟩
      obtain ⟨b, off, rfl, hr⟩ := HV2.out.at ha
      obtain ⟨-, -, k3, -⟩ := ivk_parts hr
      have hsz := (HAI.out a (List.mem_of_getElem? ha)).1
      by_cases h300 : 300 < a.nm.size
      · have q1 : decide ((300 : Int) < (a.nm.size : Int)) = true := by simp; omega
        have q2 : decide ((a.nm.size : Int) > (300 : Int)) = true := by simp; omega
        clear hr ha h300
        go_wp2_with (first
          | (go_at_call 8; refine (live31_any _).mono ?_; rintro e W4 ⟨rfl, hb4⟩))
        go_ret
        exact ⟨rfl, bthen' HB2.out hb4⟩
      · have q1 : decide ((300 : Int) < (a.nm.size : Int)) = false := by simp; omega
        have q2 : decide ((a.nm.size : Int) > (300 : Int)) = false := by simp; omega
        clear hr ha h300
        go_wp2_with fail
        go_roundw
        case rel => exact ⟨k + 1, by omega, by go_num, trivial⟩
        case measure => simp [lenI]; omega
    · obtain rfl : k = A.length := by omega
      have KL := Lib.hid (load31_prog wr c HIN2.out HF.out last hlast _ A HV2.out HAI.out (by omega))
      cases hri : rightI c last A with
      | false =>
        rw [hri] at KL
        go_wp2_with (first
          | ((with_reducible refine at_load 25 ?_); refine wpList_load_mid rfl 25 _ rfl bc 0 rfl c.cells _ HR3.out Try.underlying25 rfl (cfgRow c) ?_)
          | ((with_reducible refine at_load 25 ?_); refine wpList_load_mid rfl 25 _ rfl bc 0 rfl c.cells _ HR2.out Try.underlying25 rfl (cfgRow c) ?_)
          | (go_at_call 8; refine (live31_any _).mono ?_; rintro e W5 ⟨rfl, hb5⟩)
          | (go_at_call 24; refine KR.out.mono ?_; rintro e W4 ⟨rfl, hb4⟩)
          | (go_at_call 23; refine KL.out.mono ?_; rintro e W3 ⟨rfl, hb3⟩; have HR3 := Lib.hid (below_range hb3 HR2.out); have KR := Lib.hid (rright_any W3 c (HIN2.out.below hb3) HF.out last hlast _ A (HV2.out.below hb3) HAI.out (by omega)); rw [hri] at KR))
        go_ret
        exact ⟨rfl, bthen' (bthen' (bthen' HB2.out hb3) hb4) hb5⟩
      | true =>
        rw [hri] at KL
        go_upto_region 11 with (first
          | ((with_reducible refine at_load 25 ?_); refine wpList_load_mid rfl 25 _ rfl bc 0 rfl c.cells _ HR3.out Try.underlying25 rfl (cfgRow c) ?_)
          | ((with_reducible refine at_load 25 ?_); refine wpList_load_mid rfl 25 _ rfl bc 0 rfl c.cells _ HR2.out Try.underlying25 rfl (cfgRow c) ?_)
          | (go_at_call 24; refine KR.out.mono ?_; rintro e W4 ⟨rfl, hb4⟩)
          | (go_at_call 23; refine KL.out.mono ?_; rintro e W3 ⟨p, nm, lm, rfl, hS3⟩; have HS3 := Lib.hid hS3; have hb3 := hS3.low; have HR3 := Lib.hid (below_range hb3 HR2.out); have KR := Lib.hid (rright_any W3 c (HIN2.out.below hb3) HF.out last hlast _ A (HV2.out.below hb3) HAI.out (by omega)); rw [hri] at KR))
        have HS4 := Lib.hid (HS3.out.below' hb4)
        have hl4 := HS4.out.low
        have KA := Lib.hid (all_any HS4.out.mem HS4.out.ok (by omega))
        clear hS3 HS3 HR3 HR2 KR KL hb3
        go_wp2_with (first
          | (go_at_call 8; refine (live31_any _).mono ?_; rintro e W7 ⟨rfl, hb7⟩)
          | (go_at_call 20; refine KT.out.mono ?_; rintro e W7 ⟨rfl, rfl⟩)
          | (go_at_call 25; refine KS.out.mono ?_; rintro e W6 ⟨rfl, hb6⟩; have HS6 := Lib.hid (HS5.out.below' hb6); have KT := Lib.hid (last_any HS6.out.mem))
          | (go_at_call 9; refine KA.out.mono ?_; rintro e W5 ⟨u, rfl, hb5, hu⟩; obtain ⟨au, cu, rfl⟩ := hu.form; have HS5 := Lib.hid (HS4.out.below' hb5); have KS0 := rsame_any W5 _ _ A A (hu.lts ivOk) (HV2.out.below (bthen' hl4 hb5)) (by omega); rw [dec_self] at KS0; have KS := Lib.hid KS0; clear hu KS0))
        go_ret
        exact ⟨rfl, bthen' (bthen' HB2.out (bthen' hl4 (bthen' hb5 hb6))) hb7⟩
theorem invocLoads_of (w : World) (c : Cfg) (hin : c.In w) (v : Value) (A : List Iv) (hv : Reads ivR w v A) (hA : ∀ a ∈ A, IvIn a) (last : Int) (hlast : last ≤ 9223372036854775807) :
    Calls Try.prog 5 #[.agg c.cells.toArray, v, .int .i64 last] w fun e w' => e = .returned (.bool true) ∧ Below w.heap.size w w' := by
  cases hlg : largeB c [] with
  | true => exact loads_large w c hin v A hv last hlg
  | false =>
    by_cases h60 : 60 < A.length
    · exact loads_long w c hin v A hv last hlg h60
    · exact loads_rest w c hin v A hv hA last hlast hlg (by omega)
end Go.Proofs.Ytogajmbkjojdhaa

