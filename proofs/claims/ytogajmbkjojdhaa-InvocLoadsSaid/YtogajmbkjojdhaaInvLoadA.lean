/- Merged of InvLd InvLoad. -/
import Derived.Test.YtogajmbkjojdhaaInvSm

/-! Which invocations may be loaded: the plain law. -/
set_option linter.unusedVariables false
set_option linter.unusedSimpArgs false
set_option maxRecDepth 100000
namespace Go.Proofs.Ytogajmbkjojdhaa
open Go.RowKit

def lokF (c : Cfg) (last : Int) : Int → List Iv → List Iv → Bool
  | _, _, [] => true
  | cur, L, x :: r => if x.no ≤ cur then false else if last < x.no then false else if chkI c L x.tn x.nm x.wt ≠ 0 then false else if x.ld < 0 then false else if c.cap < x.ld then false else if quota c x.tn < loadT (L ++ [x]) x.tn then false else lokF c last x.no (L ++ [x]) r
def rightI (c : Cfg) (last : Int) (A : List Iv) : Bool := decide (checkv c = 0) && decide (0 ≤ last) && lokF c last 0 [] A
theorem lok_step {c : Cfg} {last cur : Int} {L A : List Iv} {k : Nat} {x : Iv} (hx : A[k]? = some x) : lokF c last cur L (A.drop k) = if x.no ≤ cur then false else if last < x.no then false else if chkI c L x.tn x.nm x.wt ≠ 0 then false else if x.ld < 0 then false else if c.cap < x.ld then false else if quota c x.tn < loadT (L ++ [x]) x.tn then false else lokF c last x.no (L ++ [x]) (A.drop (k + 1)) := by
  obtain ⟨hk, he⟩ := List.getElem?_eq_some_iff.1 hx
  rw [show A.drop k = x :: A.drop (k + 1) from by rw [← he]; exact (List.getElem_cons_drop ..).symm]
  rfl
theorem InvOk.add {c : Cfg} {cur : Int} {L : List Iv} (ho : InvOk c cur L) {x : Iv} (h1 : cur < x.no) (h2 : x.no ≤ 9223372036854775807) (h3 : chkI c L x.tn x.nm x.wt = 0) (h4 : 0 ≤ x.ld) (h5 : x.ld ≤ c.cap) (hs : x.nm.size ≤ 9223372036854775807) : InvOk c x.no (L ++ [x]) := by
  obtain ⟨q1, q2, q3, q4, q5⟩ := chk_zero h3
  have hlow := ho.last.1
  have hm : ∀ {P : Iv → Prop}, (∀ x ∈ L, P x) → P x → ∀ y ∈ L ++ [x], P y := fun {P} a b y hy => by
    rcases List.mem_append.1 hy with hy | hy
    · exact a y hy
    · simp at hy; subst hy; exact b
  refine ⟨?_, hm ho.low (by omega), hm (fun y hy => by have := ho.high y hy; omega) (Int.le_refl _), ?_, hm ho.tens q1, hm ho.loads ⟨h4, h5⟩, ho.cap, ⟨by omega, h2⟩, hm ho.nms hs⟩
  · rw [List.pairwise_append]
    refine ⟨ho.asc, List.pairwise_singleton _ _, fun y hy z hz => ?_⟩
    simp at hz; subst hz
    have := ho.high y hy
    omega
  · rw [List.pairwise_append]
    refine ⟨ho.names, List.pairwise_singleton _ _, fun y hy z hz => ?_⟩
    simp at hz; subst hz
    exact fNm_none.1 q4 y hy
theorem fNo_new {c : Cfg} {cur : Int} {L : List Iv} (ho : InvOk c cur L) {n : Int} (h : cur < n) : fNo L n = none := fNo_none.2 fun x hx e => by have := ho.high x hx; omega
theorem InvOk.up {c : Cfg} {cur last : Int} {L : List Iv} (ho : InvOk c cur L) (h : cur ≤ last) (h2 : last ≤ 9223372036854775807) : InvOk c last L :=
  ⟨ho.asc, ho.low, fun x hx => Int.le_trans (ho.high x hx) h, ho.names, ho.tens, ho.loads, ho.cap, ⟨by have := ho.last.1; omega, h2⟩, ho.nms⟩
end Go.Proofs.Ytogajmbkjojdhaa

/-! Load (printed by geninvload.py). -/
set_option linter.unusedVariables false
set_option linter.unusedSimpArgs false
set_option maxRecDepth 100000
namespace Go.Proofs.Ytogajmbkjojdhaa
open Go.RowKit

def LoadP (w : World) (c : Cfg) (last : Int) (A : List Iv) (r : Bool) (e : Ending) (w' : World) : Prop :=
  match r with
  | true => ∃ p nm lm, e = .returned (.tuple #[.pointer (some ⟨p, 0, none⟩), .bool true]) ∧ InvS w w' p nm lm c last A
  | false => e = .returned (.tuple #[.pointer none, .bool false]) ∧ Below w.heap.size w w'
theorem loadP_no {w w' : World} {c : Cfg} {last : Int} {A : List Iv} {r : Bool} (h : r = false) (hb : Below w.heap.size w w') : LoadP w c last A r (.returned (.tuple #[.pointer none, .bool false])) w' := by subst h; exact ⟨rfl, hb⟩
theorem loadP_yes {w w1 w' : World} {c : Cfg} {last : Int} {A : List Iv} {r : Bool} {p nm lm : Nat} (h : r = true) (hb : Below w.heap.size w w1) (hs : InvS w1 w' p nm lm c last A) : LoadP w c last A r (.returned (.tuple #[.pointer (some ⟨p, 0, none⟩), .bool true])) w' := by
  subst h
  have := hb.size
  have h2 := hs.new
  exact ⟨p, nm, lm, rfl, ⟨bthen' hb hs.low, ⟨by omega, by omega, by omega⟩, hs.mem, hs.ok⟩⟩
theorem load_wrong (w : World) (c : Cfg) (hin : c.In w) (hf : c.Few) (last : Int) (v : Value) (A : List Iv) (hv : Reads ivR w v A) (hck : checkv c ≠ 0) :
    Calls Try.prog 23 #[.agg c.cells.toArray, v, .int .i64 last] w (LoadP w c last A (rightI c last A)) := by
  have hcA := CfgAt.new c w
  have hb1 : Below w.heap.size w (w.alloc (.cells c.cells.toArray 25)) := (Below.refl _ _).alloc (Nat.le_refl _) _
  have HR := Lib.hid hcA.range
  have HB1 := Lib.hid hb1
  have KN := Lib.hid (new31_no _ c (hin.below hb1) hf hck)
  have HE := Lib.hid (show rightI c last A = false from by unfold rightI; simp [hck])
  obtain ⟨W1, hW1⟩ : ∃ W1, W1 = w.alloc (.cells c.cells.toArray 25) := ⟨_, rfl⟩
  rw [← hW1] at KN HR HB1
  clear hcA hb1 hin hv hck hf
  go_enter Try.func23, Try.ntmps23
  go_upto_region 1 with fail
  show Code.wp _ _ _ _ (w.alloc (.cells c.cells.toArray 25))
  rw [← hW1]
  clear hW1
  go_wp2_with (first
    | (refine wpList_load_mid rfl 25 _ rfl w.heap.size 0 rfl c.cells _ HR.out Try.underlying25 rfl (cfgRow c) ?_)
    | (go_at_call 6; refine KN.out.mono ?_; rintro e W2 ⟨rfl, hb2⟩))
  go_ret2
  exact loadP_no HE.out (bthen' HB1.out hb2)
theorem load_neg (w : World) (c : Cfg) (hin : c.In w) (hf : c.Few) (last : Int) (v : Value) (A : List Iv) (hv : Reads ivR w v A) (hck : checkv c = 0) (hl : last < 0) :
    Calls Try.prog 23 #[.agg c.cells.toArray, v, .int .i64 last] w (LoadP w c last A (rightI c last A)) := by
  have hcA := CfgAt.new c w
  have hb1 : Below w.heap.size w (w.alloc (.cells c.cells.toArray 25)) := (Below.refl _ _).alloc (Nat.le_refl _) _
  have HR := Lib.hid hcA.range
  have HB1 := Lib.hid hb1
  have KN := Lib.hid (new31_any _ c (hin.below hb1) hf hck)
  have HE := Lib.hid (show rightI c last A = false from by unfold rightI; rw [decide_eq_false (show ¬ 0 ≤ last by omega)]; simp)
  have q1 : decide (last < 0) = true := by simp; omega
  obtain ⟨W1, hW1⟩ : ∃ W1, W1 = w.alloc (.cells c.cells.toArray 25) := ⟨_, rfl⟩
  rw [← hW1] at KN HR HB1
  clear hcA hb1 hin hv hck hf hl
  go_enter Try.func23, Try.ntmps23
  go_upto_region 1 with fail
  show Code.wp _ _ _ _ (w.alloc (.cells c.cells.toArray 25))
  rw [← hW1]
  clear hW1
  go_wp2_with (first
    | (refine wpList_load_mid rfl 25 _ rfl w.heap.size 0 rfl c.cells _ HR.out Try.underlying25 rfl (cfgRow c) ?_)
    | (go_at_call 6; refine KN.out.mono ?_; rintro e W2 ⟨p, nm, lm, rfl, hb2, -, -⟩))
  go_ret2
  exact loadP_no HE.out (bthen' HB1.out hb2)
theorem iv5_row {w : World} {b : Nat} {x : Iv} (h : w.rangeAt b 0 (ivR.cells x)) : w.cell? ⟨b, 0, none⟩ = some (.int .i64 x.no) ∧ w.cell? ⟨b, 1, none⟩ = some (.int .i64 x.tn) ∧ w.cell? ⟨b, 2, none⟩ = some (.string x.nm) ∧ w.cell? ⟨b, 3, none⟩ = some (.int .i64 x.wt) ∧ w.cell? ⟨b, 4, none⟩ = some (.int .i64 x.ld) := iv0_parts h
set_option maxHeartbeats 16000000 in
theorem loadI_go (w : World) (c : Cfg) (hin : c.In w) (hf : c.Few) (last : Int) (hlast : last ≤ 9223372036854775807) (v : Value) (A : List Iv) (hv : Reads ivR w v A) (hA : ∀ x ∈ A, IvIn x) (hAl : A.length ≤ 1000) (hck : checkv c = 0) (hl : 0 ≤ last) :
    Calls Try.prog 23 #[.agg c.cells.toArray, v, .int .i64 last] w (LoadP w c last A (rightI c last A)) := by
  have hcA := CfgAt.new c w
  have hb1 : Below w.heap.size w (w.alloc (.cells c.cells.toArray 25)) := (Below.refl _ _).alloc (Nat.le_refl _) _
  have HR := Lib.hid hcA.range
  have HB1 := Lib.hid hb1
  have KN := Lib.hid (new31_any _ c (hin.below hb1) hf hck)
  have HE0 := Lib.hid (show rightI c last A = lokF c last 0 [] A from by unfold rightI; rw [decide_eq_true hck, decide_eq_true hl]; simp)
  have q1 : decide (last < 0) = false := by simp; omega
  have HIN := Lib.hid (hin.below hb1)
  have HV := Lib.hid (hv.below hb1)
  have HA := Lib.hid hA
  have hcap := cap_of hck
  have HCK := Lib.hid hck
  obtain ⟨W1, hW1⟩ : ∃ W1, W1 = w.alloc (.cells c.cells.toArray 25) := ⟨_, rfl⟩
  rw [← hW1] at KN HR HB1 HIN HV
  obtain ⟨av, capv, rfl⟩ := hv.form
  clear hcA hb1 hin hv hck hf hA
  go_enter Try.func23, Try.ntmps23
  go_upto_region 1 with fail
  show Code.wp _ _ _ _ (w.alloc (.cells c.cells.toArray 25))
  rw [← hW1]
  clear hW1
  go_upto_block 0 with (first
    | (refine wpList_load_mid rfl 25 _ rfl w.heap.size 0 rfl c.cells _ HR.out Try.underlying25 rfl (cfgRow c) ?_)
    | (go_at_call 6; refine KN.out.mono ?_; rintro e W2 ⟨p, nm, lm, rfl, hb2, hn2, hm2⟩))
  have HS2 := Lib.hid (show InvS W1 W2 p nm lm c 0 [] from ⟨hb2, hn2, hm2, InvOk.nil HCK.out⟩)
  obtain ⟨bc, hbc⟩ : ∃ bc, bc = w.heap.size := ⟨_, rfl⟩
  rw [← hbc] at HR ⊢
  clear hb2 hn2 hm2 KN hbc
  go_wp2_with fail
  go_loopw [21] (fun i wr => ∃ (k : Nat) (cur : Int), k ≤ A.length ∧ i = .int .i64 k ∧ InvS W1 wr p nm lm c cur (A.take k) ∧ Hid (rightI c last A = lokF c last cur (A.take k) (A.drop k)) ∧ cur ≤ last) (fun i _ => A.length - lenI i)
  case atStart => exact ⟨0, 0, by omega, rfl, HS2.out, Lib.hid HE0.out, hl⟩
  case round =>
    clear HS2 HE0
    obtain ⟨k, cur, hk, rfl, hS, HE, hcl⟩ := hrel
    have HS := Lib.hid hS
    have hlow := hS.low
    have hlow2 := hlow
    clear hS
    by_cases hlt : k < A.length
    · obtain ⟨x, hx⟩ : ∃ x, A[k]? = some x := ⟨_, List.getElem?_eq_getElem hlt⟩
      have HIA := Lib.hid (HA.out x (List.mem_of_getElem? hx))
      have HLS := Lib.hid (lok_step (c := c) (last := last) (cur := cur) (L := A.take k) hx)
      have HTS := Lib.hid (take_snoc hx)
      obtain ⟨b, off, rfl, hr0⟩ := HV.out.at hx
      have HR0 := Lib.hid (below_range hlow hr0)
      have hLl : (A.take k).length ≤ 1000 := by rw [List.length_take]; omega
      clear hx hr0 hlow2
      go_upto_region 7 with (first
        | (refine wpList_load_mid rfl 32 _ rfl b (off + k * ivR.n) rfl (ivR.cells x) _ HR0.out Try.underlying32 rfl (ivOk.row x) ?_)
        | (refine wpList_store_mid rfl 32 _ _ rfl wr.heap.size 0 (ivR.cells x).toArray rfl rfl (freshR_there ivOk wr x) (ivOk.row' x) (ivOk.one' x) ?_; show wpList _ _ _ _ _ (freshR ivR wr x); have hx4 := freshR_range ivOk wr x; have hb4 := freshR_below (R := ivR) wr x; generalize freshR ivR wr x = W4 at hx4 hb4 ⊢))
      obtain ⟨b10, hb10⟩ : ∃ b10, b10 = wr.heap.size := ⟨_, rfl⟩
      rw [← hb10] at hx4 ⊢
      have HS4 := Lib.hid (HS.out.below' hb4)
      have HX4 := Lib.hid hx4
      have hlts := HS.out.mem.lts
      have HNB := Lib.hid (show ¬ InvB p nm lm b10 from fun h9 => by rcases h9 with h9 | h9 | h9 <;> omega)
      have hl10 : b10 < W4.heap.size := World.block_lt_of_cell? W4 _ (hx4 0 _ rfl)
      obtain ⟨y0, y1, y2, y3, y4⟩ := iv0_parts HX4.out
      obtain ⟨-, -, -, -, c4, -⟩ := nineteen (below_range HS4.out.low HR.out)
      have v19 := HS4.out.mem.cel.get (i := 19) rfl
      have d0 := fun (z : Later W4) => z.cell y0
      have d1 := fun (z : Later W4) => z.cell y1
      have d2 := fun (z : Later W4) => z.cell y2
      have d3 := fun (z : Later W4) => z.cell y3
      have d4 := fun (z : Later W4) => z.cell y4
      have d5 := fun (z : Later W4) => z.cell c4
      have d6 := fun (z : Later W4) => z.cell v19
      have KC := Lib.hid (fun (W : World) (hb : Below W4.heap.size W4 W) => check31_any (HS4.out.mem.below hb) ((HIN.out.below HS4.out.low).below hb) HS4.out.ok x.tn x.nm x.wt HIA.out.1 (by omega))
      unfold Chkd at KC
      obtain ⟨q, hq⟩ : ∃ q, q = chkI c (A.take k) x.tn x.nm x.wt := ⟨_, rfl⟩
      rw [← hq] at KC
      clear hb4 hx4 HR0 HS hb10 hlts y0 y1 y2 y3 y4 c4 v19
      by_cases h0 : x.no ≤ cur
      · have HE2 := Lib.hid (show rightI c last A = false from by rw [HE.out, HLS.out]; rw [if_pos h0])
        have e00 : (decide (x.no ≤ cur)) = true := by simp; omega
        clear h0 hq
        (try simp only [Act.put])
        refine wp_region_later (by kernel_rfl) (by kernel_rfl) (Below.refl _ _) ?_
        repeat (first
          | go_big_quiet_skip
          | (go_big_quiet_want; (go_big_quiet_op; first | go_big_quiet_on | go_big_quiet_call ((go_at_call 32; exact Calls.later (KC.out _ (Later.h _)))))))
        refine wpQuiet_nil ?_
        rintro ⟨W5, hb5⟩
        dsimp only
        clear d0 d1 d2 d3 d4 d5 d6
        go_wp2_with fail
        go_ret2
        exact loadP_no HE2.out (bthen' HB1.out (HS4.out.below' hb5).low)
      · have e00 : (decide (x.no ≤ cur)) = false := by simp; omega
        by_cases h1 : last < x.no
        · have HE2 := Lib.hid (show rightI c last A = false from by rw [HE.out, HLS.out]; rw [if_neg h0]; rw [if_pos h1])
          have e10 : (decide (x.no > last)) = true := by simp; omega
          have e11 : (decide (last < x.no)) = true := by simp; omega
          clear h0 h1 hq
          (try simp only [Act.put])
          refine wp_region_later (by kernel_rfl) (by kernel_rfl) (Below.refl _ _) ?_
          repeat (first
            | go_big_quiet_skip
            | (go_big_quiet_want; (go_big_quiet_op; first | go_big_quiet_on | go_big_quiet_call ((go_at_call 32; exact Calls.later (KC.out _ (Later.h _)))))))
          refine wpQuiet_nil ?_
          rintro ⟨W5, hb5⟩
          dsimp only
          clear d0 d1 d2 d3 d4 d5 d6
          go_wp2_with fail
          go_ret2
          exact loadP_no HE2.out (bthen' HB1.out (HS4.out.below' hb5).low)
        · have e10 : (decide (x.no > last)) = false := by simp; omega
          have e11 : (decide (last < x.no)) = false := by simp; omega
          by_cases h2 : q ≠ 0
          · have HE2 := Lib.hid (show rightI c last A = false from by rw [HE.out, HLS.out]; rw [if_neg h0]; rw [if_neg h1]; rw [if_pos (hq ▸ h2)])
            have e2 : (q != 0) = true := by simp; omega
            clear h0 h1 h2 hq
            (try simp only [Act.put])
            refine wp_region_later (by kernel_rfl) (by kernel_rfl) (Below.refl _ _) ?_
            repeat (first
              | go_big_quiet_skip
              | (go_big_quiet_want; (go_big_quiet_op; first | go_big_quiet_on | go_big_quiet_call ((go_at_call 32; exact Calls.later (KC.out _ (Later.h _)))))))
            refine wpQuiet_nil ?_
            rintro ⟨W5, hb5⟩
            dsimp only
            clear d0 d1 d2 d3 d4 d5 d6
            go_wp2_with fail
            go_ret2
            exact loadP_no HE2.out (bthen' HB1.out (HS4.out.below' hb5).low)
          · have e2 : (q != 0) = false := by simp; omega
            by_cases h3 : x.ld < 0
            · have HE2 := Lib.hid (show rightI c last A = false from by rw [HE.out, HLS.out]; rw [if_neg h0]; rw [if_neg h1]; rw [if_neg (fun h => h (hq ▸ Classical.not_not.1 h2))]; rw [if_pos h3])
              have e30 : (decide (x.ld < 0)) = true := by simp; omega
              clear h0 h1 h2 h3 hq
              (try simp only [Act.put])
              refine wp_region_later (by kernel_rfl) (by kernel_rfl) (Below.refl _ _) ?_
              repeat (first
                | go_big_quiet_skip
                | (go_big_quiet_want; (go_big_quiet_op; first | go_big_quiet_on | go_big_quiet_call ((go_at_call 32; exact Calls.later (KC.out _ (Later.h _)))))))
              refine wpQuiet_nil ?_
              rintro ⟨W5, hb5⟩
              dsimp only
              clear d0 d1 d2 d3 d4 d5 d6
              go_wp2_with fail
              go_ret2
              exact loadP_no HE2.out (bthen' HB1.out (HS4.out.below' hb5).low)
            · have e30 : (decide (x.ld < 0)) = false := by simp; omega
              by_cases h4 : c.cap < x.ld
              · have HE2 := Lib.hid (show rightI c last A = false from by rw [HE.out, HLS.out]; rw [if_neg h0]; rw [if_neg h1]; rw [if_neg (fun h => h (hq ▸ Classical.not_not.1 h2))]; rw [if_neg h3]; rw [if_pos h4])
                have e40 : (decide (x.ld > c.cap)) = true := by simp; omega
                have e41 : (decide (c.cap < x.ld)) = true := by simp; omega
                clear h0 h1 h2 h3 h4 hq
                (try simp only [Act.put])
                refine wp_region_later (by kernel_rfl) (by kernel_rfl) (Below.refl _ _) ?_
                repeat (first
                  | go_big_quiet_skip
                  | (go_big_quiet_want; (go_big_quiet_op; first | go_big_quiet_on | go_big_quiet_call ((go_at_call 32; exact Calls.later (KC.out _ (Later.h _)))))))
                refine wpQuiet_nil ?_
                rintro ⟨W5, hb5⟩
                dsimp only
                clear d0 d1 d2 d3 d4 d5 d6
                go_wp2_with fail
                go_ret2
                exact loadP_no HE2.out (bthen' HB1.out (HS4.out.below' hb5).low)
              · have e40 : (decide (x.ld > c.cap)) = false := by simp; omega
                have e41 : (decide (c.cap < x.ld)) = false := by simp; omega
                have q0 : q = 0 := Classical.not_not.1 h2
                have hox := HS4.out.ok.add (x := x) (by omega) (by omega) (hq ▸ q0) (by omega) (by omega) HIA.out.1
                rw [HTS.out] at hox
                have hnm := (chk_zero (hq ▸ q0)).2.2.2.1
                have hno := fNo_new HS4.out.ok (n := x.no) (by omega)
                have HPUT := Lib.hid (fun (W : World) (hb : Below W4.heap.size W4 W) => put_any (HS4.out.mem.below hb) x hno hnm)
                have HOX := Lib.hid hox
                obtain ⟨ht0, ht1⟩ := (chk_zero (hq ▸ q0)).1
                obtain ⟨m, hm⟩ : ∃ m : Nat, x.tn = (m : Int) := ⟨x.tn.toNat, by omega⟩
                obtain ⟨T0, hT0⟩ : ∃ T0, c.T[m]? = some T0 := ⟨_, List.getElem?_eq_getElem (by omega)⟩
                have hml : m < c.T.length := (List.getElem?_eq_some_iff.1 hT0).1
                have hquo : quota c x.tn = T0.q := by unfold quota; rw [hm, Int.toNat_natCast, hT0]
                have HT := Lib.hid (fun (W : World) (hb : Below W1.heap.size W1 W) => show ∃ capt bt ot, c.tv = .slice (some ⟨bt, ot, none⟩) c.T.length capt ∧ W.cell? ⟨bt, ot + m * 3 + 2, none⟩ = some (.int .i64 T0.q) from by
                  obtain ⟨at', capt, hvt⟩ := HIN.out.t.form
                  have htr := (HIN.out.below hb).t
                  rw [hvt] at htr
                  obtain ⟨bt, ot, hct, hrt⟩ := htr.at hT0
                  subst hct
                  exact ⟨capt, bt, ot, hvt, ten_q hrt⟩)
                have HE2 := Lib.hid (show rightI c last A = if quota c x.tn < loadT (A.take k ++ [x]) x.tn then false else lokF c last x.no (A.take k ++ [x]) (A.drop (k + 1)) from by rw [HE.out, HLS.out]; rw [if_neg h0]; rw [if_neg h1]; rw [if_neg (fun h => h (hq ▸ Classical.not_not.1 h2))]; rw [if_neg h3]; rw [if_neg h4])
                rw [HTS.out, hquo] at HE2
                have hno2 : x.no ≤ last := by omega
                have HMT := Lib.hid hm
                clear hm h0 h1 h2 h3 h4 hq q0 hox hnm hno ht0 ht1 hT0 hquo HE HLS HIA
                (try simp only [Act.put])
                refine wp_region_later (by kernel_rfl) (by kernel_rfl) (Below.refl _ _) ?_
                repeat (first
                  | go_big_quiet_skip
                  | (go_big_quiet_want; (go_big_quiet_op; first | go_big_quiet_on | go_big_quiet_call ((go_at_call 32; exact Calls.later (KC.out _ (Later.h _)))))))
                refine wpQuiet_nil ?_
                rintro ⟨W5, hb5⟩
                dsimp only
                clear d0 d1 d2 d3 d4 d5 d6
                have HX5 := Lib.hid (below_range hb5 HX4.out)
                have HS5 := Lib.hid (HS4.out.below' hb5)
                have hl5 : b10 < W5.heap.size := Nat.lt_of_lt_of_le hl10 hb5.size
                have KP := Lib.hid (HPUT.out _ hb5)
                rw [HTS.out] at KP
                clear hb5 KC HPUT HX4 HS4
                go_upto_region 10 with (first
                  | (refine wpList_load_mid rfl 32 _ rfl b10 0 rfl (ivR.cells x) _ HX5.out Try.underlying32 rfl (ivOk.row x) ?_)
                  | (go_at_call 30; refine KP.out.mono ?_; rintro e W6 ⟨rfl, hu6, hm6⟩))
                have hx6 := rowk HX5.out hu6 HNB.out hl5
                have hlow6 : Below W1.heap.size W1 W6 := hu6.toB HS5.out.low HS5.out.low.size (fun k hk => by have := HS5.out.new; rcases hk with rfl | rfl | rfl <;> omega)
                have HNEW := Lib.hid HS5.out.new
                have hm := HMT.out
                obtain ⟨z0, z1, -, -, -⟩ := iv0_parts hx6
                rw [hm] at z1
                obtain ⟨capt, bt, ot, hvt, gq⟩ := HT.out _ hlow6
                obtain ⟨c0, -⟩ := nineteen (below_range hlow6 HR.out)
                rw [hvt] at c0
                have f1 := fun (z : Later W6) => z.cell z1
                have f2 := fun (z : Later W6) => z.cell c0
                have f3 := fun (z : Later W6) => z.cell gq
                have hLl2 : (A.take (k + 1)).length ≤ 1001 := by rw [List.length_take]; omega
                have KL := Lib.hid (fun (W : World) (hb : Below W6.heap.size W6 W) => load_any (hm6.below hb) HOX.out x.tn (by omega))
                rw [hm] at KL HE2
                clear hm
                obtain ⟨ld, hld⟩ : ∃ ld, ld = loadT (A.take (k + 1)) (m : Int) := ⟨_, rfl⟩
                rw [← hld] at KL HE2
                have HM6 := Lib.hid hm6
                have HX6 := Lib.hid hx6
                have HLOW6 := Lib.hid hlow6
                clear hu6 hm6 KP HX5 HS5 hlow6 hx6 z0 z1 c0 gq hvt hld HT
                by_cases hqq : T0.q < ld
                · have r1 : decide (T0.q < ld) = true := by simp; omega
                  have r1' : decide (ld > T0.q) = true := by simp; omega
                  have HE3 := Lib.hid (show rightI c last A = false from by rw [HE2.out, if_pos hqq])
                  clear hqq HE2
                  (try simp only [Act.put])
                  refine wp_region_later (by kernel_rfl) (by kernel_rfl) (Below.refl _ _) ?_
                  repeat (first
                    | go_big_quiet_skip
                    | (go_big_quiet_want; (go_big_quiet_op; first | go_big_quiet_on | go_big_quiet_call ((go_at_call 15; exact Calls.later (KL.out _ (Later.h _)))))))
                  refine wpQuiet_nil ?_
                  rintro ⟨W7, hb7⟩
                  dsimp only
                  clear f1 f2 f3
                  go_wp2_with fail
                  go_ret2
                  exact loadP_no HE3.out (bthen' HB1.out (bthen' HLOW6.out hb7))
                · have r1 : decide (T0.q < ld) = false := by simp; omega
                  have r1' : decide (ld > T0.q) = false := by simp; omega
                  have HE3 := Lib.hid (show rightI c last A = lokF c last x.no (A.take (k + 1)) (A.drop (k + 1)) from by rw [HE2.out, if_neg hqq])
                  clear hqq HE2
                  (try simp only [Act.put])
                  refine wp_region_later (by kernel_rfl) (by kernel_rfl) (Below.refl _ _) ?_
                  repeat (first
                    | go_big_quiet_skip
                    | (go_big_quiet_want; (go_big_quiet_op; first | go_big_quiet_on | go_big_quiet_call ((go_at_call 15; exact Calls.later (KL.out _ (Later.h _)))))))
                  refine wpQuiet_nil ?_
                  rintro ⟨W7, hb7⟩
                  dsimp only
                  clear f1 f2 f3
                  have HM7 := Lib.hid (HM6.out.below hb7)
                  have hx7 := below_range hb7 HX6.out
                  have HLOW7 := Lib.hid (bthen' HLOW6.out hb7)
                  obtain ⟨z0, -, -, -, -⟩ := iv0_parts hx7
                  have g19 := HM7.out.cel.get (i := 19) rfl
                  have g19f := HM7.out.cel.free (i := 19) rfl
                  clear hb7 hx7 KL HM6 HX6 HLOW6
                  go_upto_region 13 with fail
                  have hM8 := HM7.out.setLast x.no
                  have hU8 : UpdP (InvB p nm lm) W7 (W7.setCell ⟨p, 19, none⟩ (.int .i64 x.no)) := UpdP.of ((Upd.refl [p] _).setCell (by simp) _) (fun k hk => .inl (by simp at hk; exact .inl hk))
                  have HS8 := Lib.hid (show InvS W1 (W7.setCell ⟨p, 19, none⟩ (.int .i64 x.no)) p nm lm c x.no (A.take (k + 1)) from ⟨hU8.toB HLOW7.out HLOW7.out.size (fun k hk => by have := HNEW.out; rcases hk with rfl | rfl | rfl <;> omega), HNEW.out, hM8, HOX.out⟩)
                  generalize W7.setCell ⟨p, 19, none⟩ (.int .i64 x.no) = W8 at HS8 ⊢
                  clear hM8 hU8 g19 g19f z0 HM7 HLOW7
                  go_wp2_with fail
                  go_roundw
                  case rel => exact ⟨k + 1, x.no, by omega, by go_num, HS8.out, HE3, hno2⟩
                  case measure => simp [lenI]; omega
    · obtain rfl : k = A.length := by omega
      have HE2 := Lib.hid (show rightI c last A = true from by rw [HE.out, List.drop_length]; rfl)
      rw [List.take_length] at HS
      clear HE hlow2
      have g19 := HS.out.mem.cel.get (i := 19) rfl
      have g19f := HS.out.mem.cel.free (i := 19) rfl
      go_upto_region 15 with fail
      have hM8 := HS.out.mem.setLast last
      have hU8 : UpdP (InvB p nm lm) wr (wr.setCell ⟨p, 19, none⟩ (.int .i64 last)) := UpdP.of ((Upd.refl [p] _).setCell (by simp) _) (fun k hk => .inl (by simp at hk; exact .inl hk))
      have HS8 := Lib.hid (show InvS W1 (wr.setCell ⟨p, 19, none⟩ (.int .i64 last)) p nm lm c last A from HS.out.step hU8 hM8 (HS.out.ok.up hcl hlast))
      generalize wr.setCell ⟨p, 19, none⟩ (.int .i64 last) = W8 at HS8 ⊢
      clear hM8 hU8 g19 g19f HS
      go_wp2_with fail
      go_ret2
      exact loadP_yes HE2.out HB1.out HS8.out
theorem load31_prog (w : World) (c : Cfg) (hin : c.In w) (hf : c.Few) (last : Int) (hlast : last ≤ 9223372036854775807) (v : Value) (A : List Iv) (hv : Reads ivR w v A) (hA : ∀ x ∈ A, IvIn x) (hAl : A.length ≤ 1000) :
    Calls Try.prog 23 #[.agg c.cells.toArray, v, .int .i64 last] w (LoadP w c last A (rightI c last A)) := by
  by_cases hck : checkv c = 0
  · by_cases hl : last < 0
    · exact load_neg w c hin hf last v A hv hck hl
    · exact loadI_go w c hin hf last hlast v A hv hA hAl hck (by omega)
  · exact load_wrong w c hin hf last v A hv hck
end Go.Proofs.Ytogajmbkjojdhaa

