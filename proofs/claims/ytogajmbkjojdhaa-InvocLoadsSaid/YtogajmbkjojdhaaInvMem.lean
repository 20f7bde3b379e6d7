/- Invocations in memory; how many a tenant has. -/
import Derived.Test.YtogajmbkjojdhaaInvMap
set_option linter.unusedVariables false
set_option linter.unusedSimpArgs false
set_option maxRecDepth 100000
namespace Go.Proofs.Ytogajmbkjojdhaa
open Go.RowKit

def nmF (L : List Iv) : Nk → Option Value := fun k => (fNm L k.1 k.2).map fun x => .int .i64 x.no
def noF (L : List Iv) : Int → Option Value := fun n => (fNo L n).map ivR.val
def invCells (c : Cfg) (last : Int) (nm lm : Nat) : List Value := c.cells ++ [.int .i64 last, .map (some nm), .map (some lm)]
/-- Invocations in memory: the struct, and its two maps. -/
structure InvM (w : World) (v nm lm : Nat) (c : Cfg) (last : Int) (L : List Iv) : Prop where
  cel : Cel w v (invCells c last nm lm)
  ne1 : v ≠ nm
  ne2 : v ≠ lm
  ne3 : nm ≠ lm
  mn : MapS nkK w nm (nmF L) L.length
  ml : MapS (intK 3) w lm (noF L) L.length
theorem cel_updP {P : Nat → Prop} {w w' : World} {b : Nat} {vs : List Value} (h : Cel w b vs) (hu : UpdP P w w') (hP : ¬ P b) (hb : b < w.heap.size) : Cel w' b vs := fun i v hv => by
  have e := hu.block b hb hP
  exact ⟨(World.cell?_of_block (w := w) (a := ⟨b, i, none⟩) e).trans (h i v hv).1, (World.frozen?_of_block (w := w) (a := ⟨b, i, none⟩) e).trans (h i v hv).2⟩
namespace InvM
variable {w w' : World} {v nm lm : Nat} {c : Cfg} {last : Int} {L : List Iv}
theorem upd {F : List Nat} (h : InvM w v nm lm c last L) (hu : Upd F w w') (h1 : v ∉ F) (h2 : nm ∉ F) (h3 : lm ∉ F) : InvM w' v nm lm c last L :=
  ⟨h.cel.upd hu h1, h.ne1, h.ne2, h.ne3, h.mn.upd hu h2, h.ml.upd hu h3⟩
theorem below (h : InvM w v nm lm c last L) (hb : Below w.heap.size w w') : InvM w' v nm lm c last L := h.upd (Upd.ofBelow [] hb) (by simp) (by simp) (by simp)
theorem updP {P : Nat → Prop} (h : InvM w v nm lm c last L) (hu : UpdP P w w') (h1 : ¬ P v) (h2 : ¬ P nm) (h3 : ¬ P lm) : InvM w' v nm lm c last L := by
  obtain ⟨es, clock, M, hh, hr⟩ := h.mn
  obtain ⟨es2, clock2, M2, hh2, hr2⟩ := h.ml
  exact ⟨cel_updP h.cel hu h1 (h.cel.lt (by simp [invCells])), h.ne1, h.ne2, h.ne3, ⟨es, clock, M, hu.heap h2 hh, hr⟩, ⟨es2, clock2, M2, hu.heap h3 hh2, hr2⟩⟩
theorem lts (h : InvM w v nm lm c last L) : v < w.heap.size ∧ nm < w.heap.size ∧ lm < w.heap.size := ⟨h.cel.lt (by simp [invCells]), h.mn.lt, h.ml.lt⟩
end InvM
theorem fNo_mem {L : List Iv} {n : Int} {x : Iv} (h : fNo L n = some x) : x ∈ L ∧ x.no = n := ⟨List.mem_of_find?_eq_some h, by have := List.find?_some h; simpa [isNo] using this⟩
theorem fNo_none {L : List Iv} {n : Int} : fNo L n = none ↔ ∀ x ∈ L, x.no ≠ n := by unfold fNo; rw [List.find?_eq_none]; simp [isNo]
theorem fNm_mem {L : List Iv} {t : Int} {s : ByteArray} {x : Iv} (h : fNm L t s = some x) : x ∈ L ∧ x.tn = t ∧ x.nm = s := ⟨List.mem_of_find?_eq_some h, by have := List.find?_some h; simpa [isNm] using this⟩
theorem fNm_none {L : List Iv} {t : Int} {s : ByteArray} : fNm L t s = none ↔ ∀ x ∈ L, ¬ (x.tn = t ∧ x.nm = s) := by unfold fNm; rw [List.find?_eq_none]; simp [isNm]
theorem inj_no {L : List Iv} (h : L.Pairwise fun x y => x.no < y.no) {x y : Iv} (hx : x ∈ L) (hy : y ∈ L) (e : x.no = y.no) : x = y := by
  obtain ⟨i, hi, rfl⟩ := List.mem_iff_getElem.1 hx
  obtain ⟨j, hj, rfl⟩ := List.mem_iff_getElem.1 hy
  have hp := List.pairwise_iff_getElem.1 h
  rcases Nat.lt_trichotomy i j with h9 | rfl | h9
  · have := hp i j hi hj h9; omega
  · rfl
  · have := hp j i hj hi h9; omega
theorem fNo_of {L : List Iv} (h : L.Pairwise fun x y => x.no < y.no) {x : Iv} (hx : x ∈ L) : fNo L x.no = some x := by
  cases hf : fNo L x.no with
  | none => exact absurd rfl (fNo_none.1 hf x hx)
  | some y =>
    obtain ⟨hy, he⟩ := fNo_mem hf
    rw [inj_no h hx hy he.symm]
theorem zeroInv (w : World) : (zeroValue 32).run Try.prog w = .ok (ivR.val zeroIv) w := Try.zeroValue32 w

/-! ### how many a tenant has -/
theorem iv_tn {w : World} {b : Nat} {x : Iv} (h : w.rangeAt b 0 (ivR.cells x)) : w.cell? ⟨b, 1, none⟩ = some (.int .i64 x.tn) := by simpa [ivR] using h 1 _ rfl
def CntI (L : List Iv) (t : Int) (ss : List Int) (n : Nat) : Prop := n = (ss.filter fun k => match fNo L k with | some x => isTn t x | none => false).length
theorem CntI.fin {L : List Iv} (h : L.Pairwise fun x y => x.no < y.no) {t : Int} {ss : List Int} {n : Nat} (hc : CntI L t ss n) (hp : ss.Perm (L.map Iv.no)) : n = cntT L t := by
  rw [hc, (hp.filter _).length_eq, List.filter_map, List.length_map]
  unfold cntT
  congr 1
  refine List.filter_congr fun x hx => ?_
  show (match fNo L x.no with | some x => isTn t x | none => false) = isTn t x
  rw [fNo_of h hx]
def Cnted (w : World) (L : List Iv) (t : Int) (e : Ending) (w' : World) : Prop := e = .returned (.int .i64 (cntT L t)) ∧ Below w.heap.size w w'
theorem iv_perm {w : World} {b : Nat} {L : List Iv} {D : DataW Value} (h : OwnsI w b (noF L) L.length D) (hp : L.Pairwise fun x y => x.no < y.no) : (intKeys D).Perm (L.map Iv.no) := by
  have hn : (L.map Iv.no).Nodup := List.pairwise_map.2 (hp.imp fun h => by omega)
  refine (List.perm_ext_iff_of_nodup h.nod hn).2 fun x => ?_
  rw [h.mem, List.mem_map]
  unfold noF
  constructor
  · intro hs
    cases hf : fNo L x with
    | none => rw [hf] at hs; cases hs
    | some y => obtain ⟨hy, he⟩ := fNo_mem hf; exact ⟨y, hy, he⟩
  · rintro ⟨y, hy, rfl⟩
    rw [fNo_of hp hy]
    rfl
set_option maxHeartbeats 4000000 in
theorem count_any {w : World} {v nm lm : Nat} {c : Cfg} {last : Int} {L : List Iv} (h : InvM w v nm lm c last L) (ho : InvOk c last L) (t : Int) (hL : L.length ≤ 100000) :
    Calls Try.prog 57 #[.pointer (some ⟨v, 0, none⟩), .int .i64 t] w (Cnted w L t) := by
  obtain ⟨D, hD⟩ := h.ml.ownsI (by simp [maxLen]; omega) (fun k hk => by
    unfold noF at hk
    cases hf : fNo L k with
    | none => rw [hf] at hk; cases hk
    | some x =>
      obtain ⟨hx, rfl⟩ := fNo_mem hf
      have h1 := ho.low x hx
      have h2 := ho.high x hx
      have h3 := ho.last.2
      exact wfI (by omega))
  have c21 := h.cel.get (i := 21) rfl
  have HP := Lib.hid (iv_perm hD ho.asc)
  have HA := Lib.hid ho.asc
  have HD := Lib.hid hD
  have hown := hD.own
  have hlm := h.ml.lt
  have HK : Maps.Keyed Try.prog 3 := Maps.int_keyed Try.underlying3
  clear h ho
  go_enter Try.func57, Try.ntmps57
  go_wp2_with (at_range; refine wpList_range_own _ rfl _ 62 rfl 3 32 HK Try.underlying62 readR lm L.length D rfl hown ?_; intro w0 hrg0 hg0 hs0)
  have hbelow : Below w.heap.size w w0 := (Below.refl _ _).grown hg0 (Nat.le_refl _) (fun k e => by cases e)
  have hcw0 : w0.heap.size = w.heap.size + 1 := hs0
  clear hown hg0 hs0 c21
  go_frame
  go_loopw [5, 7] (fun n5 _ wr => ∃ (left : Lit → Bool) (cnt : Nat) (ss : List Int) (n : Nat), wr.ranges Try.prog 3 readR lm w.heap.size L.length D left cnt ∧ ss.length + cnt ≤ L.length ∧ CollectedI D left ss ∧ n5 = .int .i64 n ∧ CntI L t ss n ∧ Below w.heap.size w wr ∧ w.heap.size + 1 ≤ wr.heap.size) (fun _ _ wr => wr.rangeLeft lm w.heap.size)
  case atStart => exact ⟨_, _, [], 0, hrg0, by rw [HD.out.size]; simp, CollectedI.start D, rfl, rfl, hbelow, by omega⟩
  case round =>
    clear hrg0 hbelow hcw0
    obtain ⟨left, cnt, ss, n, hrg, hcs, hC, rfl, hN, hW, hsz⟩ := hrel
    go_wp2_with (at_next; refine wpList_next_ranges (β := Value) _ rfl _ rfl 3 HK readR Go.encZ id (fun key kl hk => by obtain ⟨x, hx, _⟩ := Maps.keyOf_i64 Try.underlying3 hk; exact ⟨x, hx⟩) (fun v _ _ => ⟨v, rfl⟩) lm w.heap.size L.length _ _ _ rfl hrg ?_ ?_)
    · intro hc0 hl0
      have hfin := CntI.fin HA.out hN ((hC.perm hrg.owns HK Try.underlying3 hl0).trans HP.out)
      have HF := Lib.hid hfin
      clear hrg hC hN hfin
      go_wp2_with fail
      go_ret
      first | exact ⟨rfl, hW⟩ | exact ⟨by rw [← HF.out]; rfl, hW⟩
    · intro x cv kl y1 y2 w2 cnt2 hkey hlk hv hat hrg2 hlt hg2 hs2 hen
      obtain ⟨k, hke, rfl, -⟩ := Maps.keyOf_i64 Try.underlying3 hkey
      obtain rfl : x = k := encZ_inj hke
      obtain rfl : y1 = .held cv := by have := hv; simp [readR] at this; exact this.1.symm
      have hf := HD.out.val x cv hat
      obtain ⟨z, hz, rfl⟩ : ∃ z, fNo L x = some z ∧ cv = ivR.val z := by
        unfold noF at hf
        cases hfz : fNo L x with
        | none => rw [hfz] at hf; cases hf
        | some z => rw [hfz] at hf; exact ⟨z, rfl, (Option.some.inj hf).symm⟩
      have hC2 := Lib.hid (hC.step hlk hat)
      have HZ := Lib.hid hz
      have hb2 : Below w.heap.size w w2 := hW.grown hg2 (by omega) (fun k e => by cases e; exact Nat.le_refl _)
      have HRG := Lib.hid hrg2
      have HB2 := Lib.hid hb2
      have hen' : (Instr.entry (.pointer (some ⟨w.heap.size, 0, none⟩))).run Try.prog w2 = .ok (.tuple #[.int .i64 x, ivR.val z]) w2 := hen
      have hsz2 : w.heap.size + 1 ≤ w2.heap.size := by omega
      have hlt2 : cnt2 < cnt := hlt
      have HL := Lib.hid hrg.left_eq
      have hnl : n ≤ L.length := by
        have h1 : n ≤ ss.length := by rw [hN]; exact List.length_filter_le _ _
        omega
      clear hat hC hrg hrg2 hW hsz hs2 hg2 hv hlk hkey hf hen hz hb2 hlt
      go_upto_if 20 with (refine wpList_store_mid rfl 32 _ _ rfl w2.heap.size 0 (ivR.cells z).toArray rfl rfl (freshR_there ivOk w2 z) (ivOk.row' z) (ivOk.one' z) ?_; show wpList _ _ _ _ _ (freshR ivR w2 z); have hx3 := freshR_range ivOk w2 z; have hb3 := freshR_below (R := ivR) w2 z; generalize freshR ivR w2 z = W3 at hx3 hb3 ⊢; have c1 := iv_tn hx3)
      have HB3 := Lib.hid (bthen' HB2.out hb3)
      have hbs := hb3.size
      have HRG3 := Lib.hid (HRG.out.kept (w' := W3) (row := none) ⟨hb3.os, hb3.tape, hb3.output, hb3.size, fun k hk _ => hb3.block k hk⟩ (by simp) (by simp))
      have HM := Lib.hid (show W3.rangeLeft lm w.heap.size < wr.rangeLeft lm w.heap.size from by rw [HRG3.out.left_eq, HL.out]; exact hlt2)
      by_cases htn : z.tn = t
      · have hb : (z.tn == t) = true := by simp [htn]
        have HN2 := Lib.hid (show CntI L t (ss ++ [x]) (n + 1) from by
          unfold CntI at hN ⊢
          rw [List.filter_append, List.length_append, ← hN, List.filter_cons, HZ.out]
          simp [isTn, htn])
        clear htn hN hx3 hb3
        go_wp2_with fail
        go_roundw
        case rel => exact ⟨_, cnt2, ss ++ [x], n + 1, HRG3.out, by simp; omega, hC2.out, by go_num, HN2.out, HB3.out, by omega⟩
        case measure => exact HM.out
      · have hb : (z.tn == t) = false := by simp [htn]
        have HN2 := Lib.hid (show CntI L t (ss ++ [x]) n from by
          unfold CntI at hN ⊢
          rw [List.filter_append, List.length_append, ← hN, List.filter_cons, HZ.out]
          simp [isTn, htn])
        clear htn hN hx3 hb3
        go_wp2_with fail
        go_roundw
        case rel => exact ⟨_, cnt2, ss ++ [x], n, HRG3.out, by simp; omega, hC2.out, rfl, HN2.out, HB3.out, by omega⟩
        case measure => exact HM.out
end Go.Proofs.Ytogajmbkjojdhaa
