/- The document's invocations: what only reads (printed by geninvref.py). -/
import Derived.Test.YtogajmbkjojdhaaInvStep
import Derived.Laws.StructEq
set_option linter.unusedVariables false
set_option linter.unusedSimpArgs false
set_option maxRecDepth 100000
namespace Go.Proofs.Ytogajmbkjojdhaa
open Go.RowKit

def ixB (f : Iv → Bool) (L : List Iv) : Int := match L.findIdx? f with | some i => (i : Int) | none => -1
theorem ixB_at {f : Iv → Bool} {L : List Iv} {k : Nat} {x : Iv} (h : ∀ y ∈ L.take k, f y = false) (hx : L[k]? = some x) (hf : f x = true) : ixB f L = k := by
  obtain ⟨hk, he⟩ := List.getElem?_eq_some_iff.1 hx
  unfold ixB
  rw [show L.findIdx? f = some k from by
    rw [List.findIdx?_eq_some_iff_getElem]
    refine ⟨hk, by rw [he]; exact hf, fun j hj => ?_⟩
    have hm : L[j]'(by omega) ∈ L.take k := by
      rw [List.mem_take_iff_getElem]
      exact ⟨j, by omega, rfl⟩
    simp [h _ hm]]
theorem ixB_no {f : Iv → Bool} {L : List Iv} (h : ∀ y ∈ L, f y = false) : ixB f L = -1 := by
  unfold ixB
  rw [show L.findIdx? f = none from List.findIdx?_eq_none_iff.2 h]
theorem ixB_cases (f : Iv → Bool) (L : List Iv) : (ixB f L = -1 ∧ L.find? f = none) ∨ ∃ (k : Nat) (x : Iv), ixB f L = k ∧ L[k]? = some x ∧ L.find? f = some x := by
  cases h : L.findIdx? f with
  | none =>
    left
    have h2 := List.findIdx?_eq_none_iff.1 h
    exact ⟨by unfold ixB; rw [h], List.find?_eq_none.2 fun x hx => by rw [h2 x hx]; decide⟩
  | some k =>
    right
    obtain ⟨hk, h1, h2⟩ := List.findIdx?_eq_some_iff_getElem.1 h
    refine ⟨k, L[k], by unfold ixB; rw [h], List.getElem?_eq_getElem hk, ?_⟩
    rw [List.find?_eq_some_iff_getElem]
    exact ⟨h1, k, hk, rfl, fun j hj => by have := h2 j hj; simpa using this⟩
def refCells (c : Cfg) (last : Int) (lv : Value) : List Value := c.cells ++ [.int .i64 last, lv]
theorem vRow (c : Cfg) (last : Int) (lv : Value) : (Try.prog.info? 53).map (·.size) = some (refCells c last lv).length := by
  show _ = some 21
  kernel_rfl
theorem ivk_parts {w : World} {b off k : Nat} {x : Iv} (h : w.rangeAt b (off + k * ivR.n) (ivR.cells x)) : w.cell? ⟨b, off + k * 5, none⟩ = some (.int .i64 x.no) ∧ w.cell? ⟨b, off + k * 5 + 1, none⟩ = some (.int .i64 x.tn) ∧ w.cell? ⟨b, off + k * 5 + 2, none⟩ = some (.string x.nm) ∧ w.cell? ⟨b, off + k * 5 + 3, none⟩ = some (.int .i64 x.wt) ∧ w.cell? ⟨b, off + k * 5 + 4, none⟩ = some (.int .i64 x.ld) :=
  ⟨by simpa [ivR] using h 0 _ rfl, by simpa [ivR] using h 1 _ rfl, by simpa [ivR] using h 2 _ rfl, by simpa [ivR] using h 3 _ rfl, by simpa [ivR] using h 4 _ rfl⟩
set_option maxHeartbeats 4000000 in
theorem rfind_any (w : World) (c : Cfg) (last : Int) (v : Value) (L : List Iv) (hv : Reads ivR w v L) (hL : L.length ≤ 100000) (t : Int) (s : ByteArray) :
    Calls Try.prog 39 #[.agg (refCells c last v).toArray, .int .i64 t, .string s] w fun e w' => e = .returned (.int .i64 (ixB (isNm t s) L)) ∧ Below w.heap.size w w' := by
  obtain ⟨av, capv, rfl⟩ := hv.form
  have hA := Cel.new w 53 (refCells c last (.slice av L.length capv))
  have hb1 : Below w.heap.size w (w.alloc (.cells (refCells c last (.slice av L.length capv)).toArray 53)) := (Below.refl _ _).alloc (Nat.le_refl _) _
  obtain ⟨W1, hW1⟩ : ∃ W1, W1 = w.alloc (.cells (refCells c last (.slice av L.length capv)).toArray 53) := ⟨_, rfl⟩
  rw [← hW1] at hA hb1
  have c20 := hA.get (i := 20) rfl
  have HV := Lib.hid (hv.below hb1)
  have HB1 := Lib.hid hb1
  clear hv hA hb1
  go_enter Try.func39, Try.ntmps39
  go_upto_region 1 with fail
  show Code.wp _ _ _ _ (w.alloc (.cells (refCells c last (.slice av L.length capv)).toArray 53))
  rw [← hW1]
  clear hW1
  go_wp2_with fail
  go_loopw [7] (fun i wr => ∃ k : Nat, k ≤ L.length ∧ i = .int .i64 k ∧ wr = W1 ∧ Hid (∀ y ∈ L.take k, isNm t s y = false)) (fun i _ => L.length - lenI i)
  case atStart => exact ⟨0, by omega, rfl, rfl, Lib.hid (by simp)⟩
  case round =>
    obtain ⟨k, hk, rfl, rfl, HN⟩ := hrel
    by_cases hlt : k < L.length
    · obtain ⟨x, hx⟩ : ∃ x, L[k]? = some x := ⟨_, List.getElem?_eq_getElem hlt⟩
      obtain ⟨b, off, rfl, hr⟩ := HV.out.at hx
      obtain ⟨y0, y1, y2, -, -⟩ := ivk_parts hr
      have HX := Lib.hid hx
      have HT := Lib.hid (take_snoc hx)
      clear hx hr
      by_cases h1 : x.tn = t
      · by_cases h2 : x.nm = s
        · have HE := Lib.hid (ixB_at HN.out HX.out (show isNm t s x = true from decide_eq_true ⟨h1, h2⟩))
          have q1 : (x.tn == t) = true := by simp [h1]
          have q2 : (x.nm.toList == s.toList) = true := by rw [beq_iff_eq, bytes_inj]; exact h2
          clear h1 h2 HN
          go_wp2_with fail
          go_ret
          exact ⟨by rw [HE.out]; rfl, HB1.out⟩
        · have q1 : (x.tn == t) = true := by simp [h1]
          have q2 : (x.nm.toList == s.toList) = false := by rw [beq_eq_false_iff_ne, Ne, bytes_inj]; exact h2
          have HN2 : Hid (∀ y ∈ L.take (k + 1), isNm t s y = false) := Lib.hid (by
            rw [← HT.out]
            intro y hy
            rcases List.mem_append.1 hy with hy | hy
            · exact HN.out y hy
            · simp at hy; subst hy; exact decide_eq_false fun h => h2 h.2)
          clear h1 h2 HN HX HT
          go_wp2_with fail
          go_roundw
          case rel => exact ⟨k + 1, by omega, by go_num, by first | rfl | trivial, HN2⟩
          case measure => simp [lenI]; omega
      · have q1 : (x.tn == t) = false := by simp [h1]
        have HN2 : Hid (∀ y ∈ L.take (k + 1), isNm t s y = false) := Lib.hid (by
          rw [← HT.out]
          intro y hy
          rcases List.mem_append.1 hy with hy | hy
          · exact HN.out y hy
          · simp at hy; subst hy; exact decide_eq_false fun h => h1 h.1)
        clear h1 HN HX HT
        go_wp2_with fail
        go_roundw
        case rel => exact ⟨k + 1, by omega, by go_num, by first | rfl | trivial, HN2⟩
        case measure => simp [lenI]; omega
    · obtain rfl : k = L.length := by omega
      rw [List.take_length] at HN
      have HE := Lib.hid (ixB_no HN.out)
      clear HN
      go_wp2_with fail
      go_ret
      exact ⟨by rw [HE.out]; rfl, HB1.out⟩
set_option maxHeartbeats 4000000 in
theorem rno_any (w : World) (c : Cfg) (last : Int) (v : Value) (L : List Iv) (hv : Reads ivR w v L) (hL : L.length ≤ 100000) (n : Int) :
    Calls Try.prog 40 #[.agg (refCells c last v).toArray, .int .i64 n] w fun e w' => e = .returned (.int .i64 (ixB (isNo n) L)) ∧ Below w.heap.size w w' := by
  obtain ⟨av, capv, rfl⟩ := hv.form
  have hA := Cel.new w 53 (refCells c last (.slice av L.length capv))
  have hb1 : Below w.heap.size w (w.alloc (.cells (refCells c last (.slice av L.length capv)).toArray 53)) := (Below.refl _ _).alloc (Nat.le_refl _) _
  obtain ⟨W1, hW1⟩ : ∃ W1, W1 = w.alloc (.cells (refCells c last (.slice av L.length capv)).toArray 53) := ⟨_, rfl⟩
  rw [← hW1] at hA hb1
  have c20 := hA.get (i := 20) rfl
  have HV := Lib.hid (hv.below hb1)
  have HB1 := Lib.hid hb1
  clear hv hA hb1
  go_enter Try.func40, Try.ntmps40
  go_upto_region 1 with fail
  show Code.wp _ _ _ _ (w.alloc (.cells (refCells c last (.slice av L.length capv)).toArray 53))
  rw [← hW1]
  clear hW1
  go_wp2_with fail
  go_loopw [5] (fun i wr => ∃ k : Nat, k ≤ L.length ∧ i = .int .i64 k ∧ wr = W1 ∧ Hid (∀ y ∈ L.take k, isNo n y = false)) (fun i _ => L.length - lenI i)
  case atStart => exact ⟨0, by omega, rfl, rfl, Lib.hid (by simp)⟩
  case round =>
    obtain ⟨k, hk, rfl, rfl, HN⟩ := hrel
    by_cases hlt : k < L.length
    · obtain ⟨x, hx⟩ : ∃ x, L[k]? = some x := ⟨_, List.getElem?_eq_getElem hlt⟩
      obtain ⟨b, off, rfl, hr⟩ := HV.out.at hx
      obtain ⟨y0, y1, y2, -, -⟩ := ivk_parts hr
      have HX := Lib.hid hx
      have HT := Lib.hid (take_snoc hx)
      clear hx hr
      by_cases h1 : x.no = n
      · have HE := Lib.hid (ixB_at HN.out HX.out (show isNo n x = true from decide_eq_true h1))
        have q1 : (x.no == n) = true := by simp [h1]
        clear h1 HN
        go_wp2_with fail
        go_ret
        exact ⟨by rw [HE.out]; rfl, HB1.out⟩
      · have q1 : (x.no == n) = false := by simp [h1]
        have HN2 : Hid (∀ y ∈ L.take (k + 1), isNo n y = false) := Lib.hid (by
          rw [← HT.out]
          intro y hy
          rcases List.mem_append.1 hy with hy | hy
          · exact HN.out y hy
          · simp at hy; subst hy; exact decide_eq_false h1)
        clear h1 HN HX HT
        go_wp2_with fail
        go_roundw
        case rel => exact ⟨k + 1, by omega, by go_num, by first | rfl | trivial, HN2⟩
        case measure => simp [lenI]; omega
    · obtain rfl : k = L.length := by omega
      rw [List.take_length] at HN
      have HE := Lib.hid (ixB_no HN.out)
      clear HN
      go_wp2_with fail
      go_ret
      exact ⟨by rw [HE.out]; rfl, HB1.out⟩
theorem cnt_step {L : List Iv} {t : Int} {k : Nat} {x : Iv} (hx : L[k]? = some x) : cntT (L.take (k + 1)) t = cntT (L.take k) t + (if x.tn = t then 1 else 0) := by
  unfold cntT
  rw [← take_snoc hx, List.filter_append, List.length_append]
  by_cases h : x.tn = t
  · rw [if_pos h, List.filter_cons, if_pos (by simp [isTn, h])]; rfl
  · rw [if_neg h, List.filter_cons, if_neg (by simp [isTn, h])]; rfl
theorem cnt_le (L : List Iv) (t : Int) : cntT L t ≤ L.length := List.length_filter_le _ _
set_option maxHeartbeats 4000000 in
theorem rcount_any (w : World) (c : Cfg) (last : Int) (v : Value) (L : List Iv) (hv : Reads ivR w v L) (hL : L.length ≤ 100000) (t : Int) (hb : ∀ k, 0 ≤ LdI L t k ∧ LdI L t k ≤ 3200000) :
    Calls Try.prog 59 #[.agg (refCells c last v).toArray, .int .i64 t] w fun e w' => e = .returned (.tuple #[.int .i64 (cntT L t), .int .i64 (loadT L t)]) ∧ Below w.heap.size w w' := by
  obtain ⟨av, capv, rfl⟩ := hv.form
  have hA := Cel.new w 53 (refCells c last (.slice av L.length capv))
  have hb1 : Below w.heap.size w (w.alloc (.cells (refCells c last (.slice av L.length capv)).toArray 53)) := (Below.refl _ _).alloc (Nat.le_refl _) _
  obtain ⟨W1, hW1⟩ : ∃ W1, W1 = w.alloc (.cells (refCells c last (.slice av L.length capv)).toArray 53) := ⟨_, rfl⟩
  rw [← hW1] at hA hb1
  have c20 := hA.get (i := 20) rfl
  have HV := Lib.hid (hv.below hb1)
  have HB1 := Lib.hid hb1
  have HBD := Lib.hid hb
  clear hv hA hb1 hb
  go_enter Try.func59, Try.ntmps59
  go_upto_region 1 with fail
  show Code.wp _ _ _ _ (w.alloc (.cells (refCells c last (.slice av L.length capv)).toArray 53))
  rw [← hW1]
  clear hW1
  go_wp2_with fail
  go_loopw [6, 7, 8] (fun n s i wr => ∃ k : Nat, k ≤ L.length ∧ i = .int .i64 k ∧ wr = W1 ∧ n = .int .i64 (cntT (L.take k) t) ∧ s = .int .i64 (LdI L t k)) (fun _ _ i _ => L.length - lenI i)
  case atStart => exact ⟨0, by omega, rfl, rfl, rfl, rfl⟩
  case round =>
    obtain ⟨k, hk, rfl, rfl, rfl, rfl⟩ := hrel
    by_cases hlt : k < L.length
    · obtain ⟨x, hx⟩ : ∃ x, L[k]? = some x := ⟨_, List.getElem?_eq_getElem hlt⟩
      obtain ⟨b, off, rfl, hr⟩ := HV.out.at hx
      obtain ⟨-, y1, -, -, y4⟩ := ivk_parts hr
      have hst := LdI.step (t := t) hx
      have hct := cnt_step (t := t) hx
      have hbd := HBD.out k
      have hbd2 := HBD.out (k + 1)
      have hcl := cnt_le (L.take k) t
      rw [List.length_take] at hcl
      obtain ⟨n0, hn0⟩ : ∃ n0, n0 = cntT (L.take k) t := ⟨_, rfl⟩
      obtain ⟨s0, hs0⟩ : ∃ s0, s0 = LdI L t k := ⟨_, rfl⟩
      rw [← hn0] at hct hcl ⊢
      rw [← hs0] at hst hbd ⊢
      clear hx hr hn0 hs0
      by_cases htn : x.tn = t
      · have q1 : (x.tn == t) = true := by simp [htn]
        rw [if_pos htn] at hct
        rw [if_pos (by simp [isTn, htn])] at hst
        rw [hst] at hbd2
        have HST := Lib.hid hst
        have HCT := Lib.hid hct
        clear htn hst hct
        go_wp2_with fail
        go_roundw
        case rel => exact ⟨k + 1, by omega, by go_num, by first | rfl | trivial, by rw [HCT.out]; first | done | go_num, by rw [HST.out]; first | done | rfl | (congr 1; unfold wrap64; omega)⟩
        case measure => simp [lenI]; omega
      · have q1 : (x.tn == t) = false := by simp [htn]
        rw [if_neg htn] at hct
        rw [if_neg (by simp [isTn, htn])] at hst
        have HST := Lib.hid hst
        have HCT := Lib.hid hct
        clear htn hst hct hbd2
        go_wp2_with fail
        go_roundw
        case rel => exact ⟨k + 1, by omega, by go_num, by first | rfl | trivial, by rw [HCT.out]; first | done | rfl, by rw [HST.out]; first | done | simp⟩
        case measure => simp [lenI]; omega
    · obtain rfl : k = L.length := by omega
      have HF := Lib.hid (show LdI L t L.length = loadT L t from by unfold LdI loadT; rw [List.take_length])
      have HC := Lib.hid (show cntT (L.take L.length) t = cntT L t from by rw [List.take_length])
      go_wp2_with fail
      go_ret2
      exact ⟨by rw [← HF.out, ← HC.out]; rfl, HB1.out⟩
theorem rload_any (w : World) (c : Cfg) (last : Int) (v : Value) (L : List Iv) (hv : Reads ivR w v L) (hL : L.length ≤ 100000) (t : Int) (hb : ∀ k, 0 ≤ LdI L t k ∧ LdI L t k ≤ 3200000) :
    Calls Try.prog 41 #[.agg (refCells c last v).toArray, .int .i64 t] w fun e w' => e = .returned (.int .i64 (loadT L t)) ∧ Below w.heap.size w w' := by
  obtain ⟨av, capv, rfl⟩ := hv.form
  have hA := Cel.new w 53 (refCells c last (.slice av L.length capv))
  have hb1 : Below w.heap.size w (w.alloc (.cells (refCells c last (.slice av L.length capv)).toArray 53)) := (Below.refl _ _).alloc (Nat.le_refl _) _
  obtain ⟨W1, hW1⟩ : ∃ W1, W1 = w.alloc (.cells (refCells c last (.slice av L.length capv)).toArray 53) := ⟨_, rfl⟩
  rw [← hW1] at hA hb1
  have KC := Lib.hid (rcount_any W1 c last _ L (hv.below hb1) hL t hb)
  have HR := Lib.hid hA.range
  have HB1 := Lib.hid hb1
  clear hv hA hb1 hb
  go_enter Try.func41, Try.ntmps41
  go_upto_region 1 with fail
  show Code.wp _ _ _ _ (w.alloc (.cells (refCells c last (.slice av L.length capv)).toArray 53))
  rw [← hW1]
  clear hW1
  go_wp2_with (first
    | (refine wpList_load_mid rfl 53 _ rfl w.heap.size 0 rfl (refCells c last (.slice av L.length capv)) _ HR.out Try.underlying53 rfl (vRow c last _) ?_)
    | (go_at_call 59; refine KC.out.mono ?_; rintro e W2 ⟨rfl, hb2⟩))
  go_ret
  exact ⟨rfl, bthen' HB1.out hb2⟩
theorem fNm_ix (L : List Iv) (t : Int) (s : ByteArray) : (fNm L t s).isSome = decide (0 ≤ ixB (isNm t s) L) := by
  unfold fNm
  rcases ixB_cases (isNm t s) L with ⟨h1, h2⟩ | ⟨k, x, h1, h2, h3⟩
  · rw [h1, h2]; rfl
  · rw [h1, h3]
    have : decide ((0 : Int) ≤ (k : Int)) = true := by simp
    rw [this]
    rfl
set_option maxHeartbeats 8000000 in
theorem rcheck_any (w : World) (c : Cfg) (hin : c.In w) (last : Int) (v : Value) (L : List Iv) (hv : Reads ivR w v L) (hL : L.length ≤ 100000) (t : Int) (s : ByteArray) (wt : Int) (hs : s.size ≤ 9223372036854775807) (hb : ∀ k, 0 ≤ LdI L t k ∧ LdI L t k ≤ 3200000) :
    Calls Try.prog 43 #[.agg (refCells c last v).toArray, .int .i64 t, .string s, .int .i64 wt] w fun e w' => e = .returned (.int .i64 (chkI c L t s wt)) ∧ Below w.heap.size w w' := by
  obtain ⟨av, capv, rfl⟩ := hv.form
  have hA := Cel.new w 53 (refCells c last (.slice av L.length capv))
  have hb1 : Below w.heap.size w (w.alloc (.cells (refCells c last (.slice av L.length capv)).toArray 53)) := (Below.refl _ _).alloc (Nat.le_refl _) _
  obtain ⟨W1, hW1⟩ : ∃ W1, W1 = w.alloc (.cells (refCells c last (.slice av L.length capv)).toArray 53) := ⟨_, rfl⟩
  rw [← hW1] at hA hb1
  obtain ⟨at', capt, hvt⟩ := hin.t.form
  have c0 := hA.get (i := 0) rfl
  rw [hvt] at c0
  have c5 := hA.get (i := 5) rfl
  have c6 := hA.get (i := 6) rfl
  have HR := Lib.hid hA.range
  have KF := Lib.hid (fun (W : World) (hb : Below W1.heap.size W1 W) => rfind_any W c last _ L ((hv.below hb1).below hb) hL t s)
  have KC := Lib.hid (fun (W : World) (hb2 : Below W1.heap.size W1 W) => rcount_any W c last _ L ((hv.below hb1).below hb2) hL t hb)
  have HB1 := Lib.hid hb1
  have HS := Lib.hid hs
  rw [chk_cases, fNm_ix]
  obtain ⟨r, hr⟩ : ∃ r, r = ixB (isNm t s) L := ⟨_, rfl⟩
  obtain ⟨n, hn⟩ : ∃ n, n = cntT L t := ⟨_, rfl⟩
  obtain ⟨nb, hnb⟩ : ∃ nb, nb = nameB s.data.toList := ⟨_, rfl⟩
  have KN := Lib.hid (fun (W : World) => refName_any W s hs)
  rw [← hr] at KF ⊢
  rw [← hn] at KC ⊢
  rw [← hnb] at KN ⊢
  clear hr hn hnb hv hA hb1 hb hin hvt hs
  by_cases hc0 : t < 0
  · rw [if_pos hc0]
    have q00 : (decide (t < 0)) = true := by simp; omega
    clear hc0
    go_enter Try.func43, Try.ntmps43
    go_upto_region 1 with fail
    show Code.wp _ _ _ _ (w.alloc (.cells (refCells c last (.slice av L.length capv)).toArray 53))
    rw [← hW1]
    clear hW1
    go_wp2_with (first
        | (refine wpList_load_mid rfl 53 _ rfl w.heap.size 0 rfl (refCells c last (.slice av L.length capv)) _ (below_range hb4 (below_range hb3 HR.out)) Try.underlying53 rfl (vRow c last _) ?_)
        | (refine wpList_load_mid rfl 53 _ rfl w.heap.size 0 rfl (refCells c last (.slice av L.length capv)) _ (below_range hb3 HR.out) Try.underlying53 rfl (vRow c last _) ?_)
        | (go_at_call 59; refine (KC.out _ (bthen' hb3 hb4)).mono ?_; rintro e W5 ⟨rfl, hb5⟩; have g5 := below_cell (bthen' hb4 hb5) c5)
        | (go_at_call 39; refine (KF.out _ hb3).mono ?_; rintro e W4 ⟨rfl, hb4⟩)
        | (go_at_call 60; refine (KN.out _).mono ?_; rintro e W3 ⟨rfl, hb3⟩; have c6 := below_cell hb3 c6; have c5 := below_cell hb3 c5))
    go_ret
    exact ⟨rfl, HB1.out⟩
  · rw [if_neg hc0]
    have q00 : (decide (t < 0)) = false := by simp; omega
    clear hc0
    by_cases hc1 : (c.T.length : Int) ≤ t
    · rw [if_pos hc1]
      have q10 : (decide (t ≥ (c.T.length : Int))) = true := by simp; omega
      have q11 : (decide ((c.T.length : Int) ≤ t)) = true := by simp; omega
      clear hc1
      go_enter Try.func43, Try.ntmps43
      go_upto_region 1 with fail
      show Code.wp _ _ _ _ (w.alloc (.cells (refCells c last (.slice av L.length capv)).toArray 53))
      rw [← hW1]
      clear hW1
      go_wp2_with (first
          | (refine wpList_load_mid rfl 53 _ rfl w.heap.size 0 rfl (refCells c last (.slice av L.length capv)) _ (below_range hb4 (below_range hb3 HR.out)) Try.underlying53 rfl (vRow c last _) ?_)
          | (refine wpList_load_mid rfl 53 _ rfl w.heap.size 0 rfl (refCells c last (.slice av L.length capv)) _ (below_range hb3 HR.out) Try.underlying53 rfl (vRow c last _) ?_)
          | (go_at_call 59; refine (KC.out _ (bthen' hb3 hb4)).mono ?_; rintro e W5 ⟨rfl, hb5⟩; have g5 := below_cell (bthen' hb4 hb5) c5)
          | (go_at_call 39; refine (KF.out _ hb3).mono ?_; rintro e W4 ⟨rfl, hb4⟩)
          | (go_at_call 60; refine (KN.out _).mono ?_; rintro e W3 ⟨rfl, hb3⟩; have c6 := below_cell hb3 c6; have c5 := below_cell hb3 c5))
      go_ret
      exact ⟨rfl, HB1.out⟩
    · rw [if_neg hc1]
      have q10 : (decide (t ≥ (c.T.length : Int))) = false := by simp; omega
      have q11 : (decide ((c.T.length : Int) ≤ t)) = false := by simp; omega
      clear hc1
      cases nb
      · rw [if_pos rfl]
        go_enter Try.func43, Try.ntmps43
        go_upto_region 1 with fail
        show Code.wp _ _ _ _ (w.alloc (.cells (refCells c last (.slice av L.length capv)).toArray 53))
        rw [← hW1]
        clear hW1
        go_wp2_with (first
            | (refine wpList_load_mid rfl 53 _ rfl w.heap.size 0 rfl (refCells c last (.slice av L.length capv)) _ (below_range hb4 (below_range hb3 HR.out)) Try.underlying53 rfl (vRow c last _) ?_)
            | (refine wpList_load_mid rfl 53 _ rfl w.heap.size 0 rfl (refCells c last (.slice av L.length capv)) _ (below_range hb3 HR.out) Try.underlying53 rfl (vRow c last _) ?_)
            | (go_at_call 59; refine (KC.out _ (bthen' hb3 hb4)).mono ?_; rintro e W5 ⟨rfl, hb5⟩; have g5 := below_cell (bthen' hb4 hb5) c5)
            | (go_at_call 39; refine (KF.out _ hb3).mono ?_; rintro e W4 ⟨rfl, hb4⟩)
            | (go_at_call 60; refine (KN.out _).mono ?_; rintro e W3 ⟨rfl, hb3⟩; have c6 := below_cell hb3 c6; have c5 := below_cell hb3 c5))
        go_ret
        exact ⟨rfl, bthen' HB1.out hb3⟩
      · rw [if_neg (by decide)]
        by_cases hc3 : wt < 1
        · rw [if_pos hc3]
          have q30 : (decide (wt < 1)) = true := by simp; omega
          clear hc3
          go_enter Try.func43, Try.ntmps43
          go_upto_region 1 with fail
          show Code.wp _ _ _ _ (w.alloc (.cells (refCells c last (.slice av L.length capv)).toArray 53))
          rw [← hW1]
          clear hW1
          go_wp2_with (first
              | (refine wpList_load_mid rfl 53 _ rfl w.heap.size 0 rfl (refCells c last (.slice av L.length capv)) _ (below_range hb4 (below_range hb3 HR.out)) Try.underlying53 rfl (vRow c last _) ?_)
              | (refine wpList_load_mid rfl 53 _ rfl w.heap.size 0 rfl (refCells c last (.slice av L.length capv)) _ (below_range hb3 HR.out) Try.underlying53 rfl (vRow c last _) ?_)
              | (go_at_call 59; refine (KC.out _ (bthen' hb3 hb4)).mono ?_; rintro e W5 ⟨rfl, hb5⟩; have g5 := below_cell (bthen' hb4 hb5) c5)
              | (go_at_call 39; refine (KF.out _ hb3).mono ?_; rintro e W4 ⟨rfl, hb4⟩)
              | (go_at_call 60; refine (KN.out _).mono ?_; rintro e W3 ⟨rfl, hb3⟩; have c6 := below_cell hb3 c6; have c5 := below_cell hb3 c5))
          go_ret
          exact ⟨rfl, bthen' HB1.out hb3⟩
        · rw [if_neg hc3]
          have q30 : (decide (wt < 1)) = false := by simp; omega
          clear hc3
          by_cases hc4 : c.weight < wt
          · rw [if_pos hc4]
            have q40 : (decide (wt > c.weight)) = true := by simp; omega
            have q41 : (decide (c.weight < wt)) = true := by simp; omega
            clear hc4
            go_enter Try.func43, Try.ntmps43
            go_upto_region 1 with fail
            show Code.wp _ _ _ _ (w.alloc (.cells (refCells c last (.slice av L.length capv)).toArray 53))
            rw [← hW1]
            clear hW1
            go_wp2_with (first
                | (refine wpList_load_mid rfl 53 _ rfl w.heap.size 0 rfl (refCells c last (.slice av L.length capv)) _ (below_range hb4 (below_range hb3 HR.out)) Try.underlying53 rfl (vRow c last _) ?_)
                | (refine wpList_load_mid rfl 53 _ rfl w.heap.size 0 rfl (refCells c last (.slice av L.length capv)) _ (below_range hb3 HR.out) Try.underlying53 rfl (vRow c last _) ?_)
                | (go_at_call 59; refine (KC.out _ (bthen' hb3 hb4)).mono ?_; rintro e W5 ⟨rfl, hb5⟩; have g5 := below_cell (bthen' hb4 hb5) c5)
                | (go_at_call 39; refine (KF.out _ hb3).mono ?_; rintro e W4 ⟨rfl, hb4⟩)
                | (go_at_call 60; refine (KN.out _).mono ?_; rintro e W3 ⟨rfl, hb3⟩; have c6 := below_cell hb3 c6; have c5 := below_cell hb3 c5))
            go_ret
            exact ⟨rfl, bthen' HB1.out hb3⟩
          · rw [if_neg hc4]
            have q40 : (decide (wt > c.weight)) = false := by simp; omega
            have q41 : (decide (c.weight < wt)) = false := by simp; omega
            clear hc4
            by_cases hc5 : 0 ≤ r
            · rw [if_pos (decide_eq_true hc5)]
              have q50 : (decide (r ≥ 0)) = true := by simp; omega
              have q51 : (decide (0 ≤ r)) = true := by simp; omega
              clear hc5
              go_enter Try.func43, Try.ntmps43
              go_upto_region 1 with fail
              show Code.wp _ _ _ _ (w.alloc (.cells (refCells c last (.slice av L.length capv)).toArray 53))
              rw [← hW1]
              clear hW1
              go_wp2_with (first
                  | (refine wpList_load_mid rfl 53 _ rfl w.heap.size 0 rfl (refCells c last (.slice av L.length capv)) _ (below_range hb4 (below_range hb3 HR.out)) Try.underlying53 rfl (vRow c last _) ?_)
                  | (refine wpList_load_mid rfl 53 _ rfl w.heap.size 0 rfl (refCells c last (.slice av L.length capv)) _ (below_range hb3 HR.out) Try.underlying53 rfl (vRow c last _) ?_)
                  | (go_at_call 59; refine (KC.out _ (bthen' hb3 hb4)).mono ?_; rintro e W5 ⟨rfl, hb5⟩; have g5 := below_cell (bthen' hb4 hb5) c5)
                  | (go_at_call 39; refine (KF.out _ hb3).mono ?_; rintro e W4 ⟨rfl, hb4⟩)
                  | (go_at_call 60; refine (KN.out _).mono ?_; rintro e W3 ⟨rfl, hb3⟩; have c6 := below_cell hb3 c6; have c5 := below_cell hb3 c5))
              go_ret
              exact ⟨rfl, bthen' HB1.out (bthen' hb3 hb4)⟩
            · rw [if_neg (by simp; omega)]
              have q50 : (decide (r ≥ 0)) = false := by simp; omega
              have q51 : (decide (0 ≤ r)) = false := by simp; omega
              clear hc5
              by_cases hc6 : c.invs ≤ (n : Int)
              · rw [if_pos hc6]
                have q60 : (decide ((n : Int) ≥ c.invs)) = true := by simp; omega
                have q61 : (decide (c.invs ≤ (n : Int))) = true := by simp; omega
                clear hc6
                go_enter Try.func43, Try.ntmps43
                go_upto_region 1 with fail
                show Code.wp _ _ _ _ (w.alloc (.cells (refCells c last (.slice av L.length capv)).toArray 53))
                rw [← hW1]
                clear hW1
                go_wp2_with (first
                    | (refine wpList_load_mid rfl 53 _ rfl w.heap.size 0 rfl (refCells c last (.slice av L.length capv)) _ (below_range hb4 (below_range hb3 HR.out)) Try.underlying53 rfl (vRow c last _) ?_)
                    | (refine wpList_load_mid rfl 53 _ rfl w.heap.size 0 rfl (refCells c last (.slice av L.length capv)) _ (below_range hb3 HR.out) Try.underlying53 rfl (vRow c last _) ?_)
                    | (go_at_call 59; refine (KC.out _ (bthen' hb3 hb4)).mono ?_; rintro e W5 ⟨rfl, hb5⟩; have g5 := below_cell (bthen' hb4 hb5) c5)
                    | (go_at_call 39; refine (KF.out _ hb3).mono ?_; rintro e W4 ⟨rfl, hb4⟩)
                    | (go_at_call 60; refine (KN.out _).mono ?_; rintro e W3 ⟨rfl, hb3⟩; have c6 := below_cell hb3 c6; have c5 := below_cell hb3 c5))
                go_ret
                exact ⟨rfl, bthen' HB1.out (bthen' hb3 (bthen' hb4 hb5))⟩
              · rw [if_neg hc6]
                have q60 : (decide ((n : Int) ≥ c.invs)) = false := by simp; omega
                have q61 : (decide (c.invs ≤ (n : Int))) = false := by simp; omega
                clear hc6
                go_enter Try.func43, Try.ntmps43
                go_upto_region 1 with fail
                show Code.wp _ _ _ _ (w.alloc (.cells (refCells c last (.slice av L.length capv)).toArray 53))
                rw [← hW1]
                clear hW1
                go_wp2_with (first
                    | (refine wpList_load_mid rfl 53 _ rfl w.heap.size 0 rfl (refCells c last (.slice av L.length capv)) _ (below_range hb4 (below_range hb3 HR.out)) Try.underlying53 rfl (vRow c last _) ?_)
                    | (refine wpList_load_mid rfl 53 _ rfl w.heap.size 0 rfl (refCells c last (.slice av L.length capv)) _ (below_range hb3 HR.out) Try.underlying53 rfl (vRow c last _) ?_)
                    | (go_at_call 59; refine (KC.out _ (bthen' hb3 hb4)).mono ?_; rintro e W5 ⟨rfl, hb5⟩; have g5 := below_cell (bthen' hb4 hb5) c5)
                    | (go_at_call 39; refine (KF.out _ hb3).mono ?_; rintro e W4 ⟨rfl, hb4⟩)
                    | (go_at_call 60; refine (KN.out _).mono ?_; rintro e W3 ⟨rfl, hb3⟩; have c6 := below_cell hb3 c6; have c5 := below_cell hb3 c5))
                go_ret
                exact ⟨rfl, bthen' HB1.out (bthen' hb3 (bthen' hb4 hb5))⟩
set_option maxRecDepth 100000 in
set_option maxHeartbeats 1000000 in
theorem rsame_any (w : World) (va vb : Value) (A B : List _) (ha : Reads ivR w va A) (hb : Reads ivR w vb B) (hbig : A.length ≤ 1000000) :
    Calls Try.prog 25 #[va, vb] w fun e w' => e = .returned (.bool (decide (A = B))) ∧ Below w.heap.size w w' := by
  obtain ⟨aa, capa, rfl⟩ := ha.form
  obtain ⟨ab, capb, rfl⟩ := hb.form
  by_cases hlen : A.length = B.length
  · have hlen2 := hlen.symm
    clear hlen
    have HA := Lib.hid ha
    have HB := Lib.hid hb
    clear ha hb
    go_enter Try.func25, Try.ntmps25
    go_wp2_with fail
    go_loopw [5] (fun i wr => ∃ k : Nat, k ≤ A.length ∧ i = .int .i64 k ∧ Below w.heap.size w wr ∧ A.take k = B.take k) (fun i _ => A.length - (intOf i).toNat)
    case atStart => exact ⟨0, by omega, rfl, Below.refl _ _, by simp⟩
    case round =>
      obtain ⟨k, hk, rfl, hW, hE⟩ := hrel
      have HE := Lib.hid hE
      clear hE
      by_cases hlt : k < A.length
      · obtain ⟨x, hx⟩ : ∃ x, A[k]? = some x := ⟨_, List.getElem?_eq_getElem hlt⟩
        obtain ⟨y, hy⟩ : ∃ y, B[k]? = some y := ⟨_, List.getElem?_eq_getElem (by omega)⟩
        obtain ⟨b1, o1, rfl, r1⟩ := (HA.out.below hW).at hx
        obtain ⟨b2, o2, rfl, r2⟩ := (HB.out.below hW).at hy
        have HX := Lib.hid hx
        have HY := Lib.hid hy
        have R1 := Lib.hid (fun (w' : World) (hx : ∃ x : Later wr, w' = x.w) => (show w'.rangeAt b1 (o1 + k * ivR.n) (ivR.cells x) from by obtain ⟨z, rfl⟩ := hx; exact below_range z.h r1))
        have R2 := Lib.hid (fun (w' : World) (hx : ∃ x : Later wr, w' = x.w) => (show w'.rangeAt b2 (o2 + k * ivR.n) (ivR.cells y) from by obtain ⟨z, rfl⟩ := hx; exact below_range z.h r2))
        clear hx hy r1 r2
        have hsame := fun w => iv_eq 9998 x y w
        have hguard := ivGuard
        go_wp2_with fail
        refine wp_region_later (by kernel_rfl) (by kernel_rfl) (Below.refl _ _) ?_
        repeat (first
          | go_big_quiet_skip
          | (go_big_quiet_want; first
            | (refine quiet_load_mid 32 _ rfl b1 (o1 + k * ivR.n) rfl (ivR.cells x) _ R1.out Try.underlying32 rfl (ivOk.row x) ?_; simp only [Act.put, List.setIfInBounds_toArray, List.set_cons_succ, List.set_cons_zero]; go_big_quiet_on)
            | (refine quiet_load_mid 32 _ rfl b2 (o2 + k * ivR.n) rfl (ivR.cells y) _ R2.out Try.underlying32 rfl (ivOk.row y) ?_; simp only [Act.put, List.setIfInBounds_toArray, List.set_cons_succ, List.set_cons_zero]; go_big_quiet_on)
            | (go_big_quiet_op; go_big_quiet_on)))
        refine wpQuiet_nil ?_
        rintro ⟨W2, hb2⟩
        dsimp only
        clear hsame hguard R1 R2
        by_cases hxy : x = y
        · have HE2 := Lib.hid (take_eq_of HE.out HX.out HY.out hxy)
          have hxyb : decide (x = y) = true := decide_eq_true hxy
          clear HX HY HE
          clear hxy
          rw [hxyb]
          go_wp2_with fail
          go_roundw
          case rel => exact ⟨k + 1, by omega, by go_num, bthen' hW hb2, HE2.out⟩
          case measure => simp [intOf]; omega
        · have hne := Lib.hid (show decide (A = B) = false from decide_eq_false (fun e => hxy (by
            have h1 := HX.out
            rw [e, HY.out] at h1
            exact (Option.some.inj h1).symm)))
          have hxyb : decide (x = y) = false := decide_eq_false hxy
          clear hxy HX HY HE
          rw [hxyb]
          go_wp2_with fail
          go_ret
          exact ⟨by rw [hne.out]; rfl, bthen' hW hb2⟩
      · obtain rfl : k = A.length := by omega
        have hAB := Lib.hid (show decide (A = B) = true from decide_eq_true (by have := HE.out; rw [List.take_length, ← hlen2, List.take_length] at this; exact this))
        clear HE
        go_wp2_with fail
        go_ret
        exact ⟨by rw [hAB.out]; rfl, hW⟩
  · have hne := Lib.hid (show decide (A = B) = false from decide_eq_false (fun e => hlen (by rw [e])))
    clear ha hb
    have hlb : (((A.length : Nat) : Int) != ((B.length : Nat) : Int)) = true := by simp; omega
    clear hlen
    go_enter Try.func25, Try.ntmps25
    go_wp2_with fail
    go_ret
    exact ⟨by rw [hne.out]; rfl, Below.refl _ _⟩

end Go.Proofs.Ytogajmbkjojdhaa
