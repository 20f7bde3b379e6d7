/- The least tick (printed by genwhnext.py). -/
import Derived.Test.YtkbjlpdmmbldpaaWhDrop
set_option linter.unusedVariables false
set_option linter.unusedSimpArgs false
set_option maxRecDepth 100000
namespace Go.Proofs.Ytkbjlpdmmbldpaa
open Go.RowKit

theorem quiet_lookup {κ : Type} [DecidableEq κ] {K : KeyK κ} (k0 : K.Ok) {C : World → Prop} {Kp : Act → Prop} {a : Act} {o : Oper} (m x : Operand) (t e : TypeId) (ho : o.op = .lookup t m x false)
    (ht : Try.prog.underlying t = some (.map K.ty e)) {z : Value} (hz : ∀ w, (zeroValue e).run Try.prog w = .ok z w) {b n : Nat} {f : κ → Option Value} (hm : a.eval m = .map (some b)) (h : ∀ w, C w → MapF K w b f n) (k : κ) (hx : a.eval x = K.kv k)
    (hK : Kp (a.put o.dst ((f k).getD z))) : o.quiet Try.prog a C Kp :=
  ⟨(f k).getD z, fun w hw => by
    unfold Oper.quietAt execOp
    simp only [ho, hm, hx, Sem.run_bind, (h w hw).lookup k0 ht (hz w) k, Result.andThen_ok]
    trivial, hK⟩
def tauT (L : List Tm) (i : Int) : Nat := ((gotT L i).map Tm.t).getD 0
theorem atM_tau {L : List Tm} {i : Int} (h : (gotT L i).isSome = true) : (atM L i).getD (.int .u64 0) = .int .u64 ((tauT L i : Nat) : Int) := by
  unfold atM tauT
  cases hg : gotT L i with
  | none => rw [hg] at h; cases h
  | some x => rfl
def LeastP (w : World) (τ : Int → Nat) (X : List Int) (e : Ending) (w' : World) : Prop := ∃ m : Nat, e = .returned (.int .u64 (m : Int)) ∧ Below w.heap.size w w' ∧ (∃ i ∈ X, τ i = m) ∧ ∀ i ∈ X, m ≤ τ i
def Amid (τ : Int → Nat) (X : List Int) (k m : Nat) : Prop := (∃ i ∈ X, τ i = m) ∧ ∀ i ∈ X.take k, m ≤ τ i
theorem Amid.step {τ : Int → Nat} {X : List Int} {k m : Nat} {x : Int} (h : Amid τ X k m) (hx : X[k]? = some x) : Amid τ X (k + 1) (min m (τ x)) := by
  obtain ⟨⟨i, hi, he⟩, h2⟩ := h
  refine ⟨?_, fun j hj => ?_⟩
  · rcases Nat.le_total m (τ x) with h3 | h3
    · exact ⟨i, hi, by rw [Nat.min_eq_left h3]; exact he⟩
    · exact ⟨x, List.mem_of_getElem? hx, by rw [Nat.min_eq_right h3]⟩
  · rw [← take_snoc hx] at hj
    rcases List.mem_append.1 hj with hj | hj
    · have := h2 j hj; omega
    · simp at hj; subst hj; omega

set_option maxHeartbeats 2000000 in
theorem least_any {T : Nat → Prop} {w : World} {p now m sm n : Nat} {rv : Nat → Value} {S : Int → Option Value} {R : Nat → List Int} {L : List Tm} (h : WMem T w p now m sm n rv (atM L) S R) {v : Value} {X : List Int} (hv : Reads intR w v X) (hX : X ≠ []) (hin : ∀ i ∈ X, (gotT L i).isSome = true) (hbig : X.length ≤ 100000) :
    Calls Try.prog 52 #[.pointer (some ⟨p, 0, none⟩), v] w (LeastP w (tauT L) X) := by
  obtain ⟨av, cv, rfl⟩ := hv.form
  obtain ⟨x0, hx0⟩ : ∃ x, X[0]? = some x := ⟨_, List.getElem?_eq_getElem (List.length_pos_iff.2 hX)⟩
  obtain ⟨b, off, rfl, hr⟩ := hv.at hx0
  have k0 : w.cell? ⟨b, off, none⟩ = some (.int .i64 x0) := by simpa using int_cell hr
  have c1 := h.c1
  have HV := Lib.hid hv
  have HIN := Lib.hid (fun i hi => atM_tau (hin i hi))
  have HM := Lib.hid h.ats
  have HC1 := Lib.hid c1
  have HX0 := Lib.hid hx0
  have hpos : 0 < X.length := List.length_pos_iff.2 hX
  have HX1 := Lib.hid (List.mem_of_getElem? hx0)
  have hneS : Nonempty (Mix.InS (fun z => Below w.heap.size w z)) := ⟨⟨w, Below.refl _ _⟩⟩
  have d1 := fun (z : Later w) => z.cell c1
  have d2 := fun (z : Later w) => z.cell k0
  have HMC := Lib.hid (fun (w' : World) (hx : ∃ x : Later w, w' = x.w) => (show MapF (intK 3) w' m (atM L) n from by obtain ⟨z, rfl⟩ := hx; exact HM.out.below z.h))
  have HI0 := Lib.hid (HIN.out x0 HX1.out)
  clear h hv hX hin hx0 hr
  go_enter Try.func52, Try.ntmps52
  go_upto_region 1 with fail
  refine wp_region_later (by kernel_rfl) (by kernel_rfl) (Below.refl _ _) ?_
  repeat (first
    | go_big_quiet_skip
    | (go_big_quiet_want; first
      | (refine quiet_lookup intWith _ _ 72 22 rfl Try.underlying72 (z := .int .u64 0) (fun w => Try.zeroValue22 w) rfl HMC.out x0 rfl ?_; rw [HI0.out]; simp only [Act.put, List.setIfInBounds_toArray, List.set_cons_succ, List.set_cons_zero]; go_big_quiet_on)
      | (go_big_quiet_op; go_big_quiet_on)))
  refine wpQuiet_nil ?_
  rintro ⟨W1, hb1⟩
  dsimp only
  clear d1 d2 k0 c1 HMC hneS
  go_wp2_with fail
  go_loopw [5, 18] (fun at5 i wr => ∃ k mm : Nat, k ≤ X.length ∧ i = .int .i64 k ∧ at5 = .int .u64 (mm : Int) ∧ Below w.heap.size w wr ∧ Hid (Amid (tauT L) X k mm)) (fun _ i _ => X.length - (intOf i).toNat)
  case atStart => exact ⟨0, tauT L x0, by omega, rfl, rfl, hb1, Lib.hid ⟨⟨x0, HX1.out, rfl⟩, by simp⟩⟩
  case round =>
    obtain ⟨k, mm, hk, rfl, rfl, hW, HA⟩ := hrel
    by_cases hlt : k < X.length
    · obtain ⟨x, hx⟩ : ∃ x, X[k]? = some x := ⟨_, List.getElem?_eq_getElem hlt⟩
      obtain ⟨b2, off2, e2, hr2⟩ := (HV.out.below hW).at hx
      obtain ⟨rfl, rfl⟩ : b = b2 ∧ off = off2 := by simpa using e2
      have kx := int_cell hr2
      have c1 := below_cell hW HC1.out
      have HAS := Lib.hid (HA.out.step hx)
      have HIX := Lib.hid (HIN.out x (List.mem_of_getElem? hx))
      have HMW := Lib.hid (HM.out.below hW)
      clear hx hr2 e2
      go_wp2_with (refine wl_lookup intWith rfl _ _ 72 22 rfl Try.underlying72 (z := .int .u64 0) (fun w => Try.zeroValue22 w) rfl HMW.out x rfl ?_; rw [HIX.out])
      go_roundw
      case rel => exact ⟨k + 1, min mm (tauT L x), by omega, by go_num, by congr 1; omega, hW, HAS⟩
      case measure => simp [intOf]; omega
    · obtain rfl : k = X.length := by omega
      go_wp2_with fail
      go_ret
      have := HA.out
      exact ⟨mm, rfl, hW, this.1, fun i hi => this.2 i (by rw [List.take_length]; exact hi)⟩

/-- What comes first. -/
def NextP (w : World) (L : List Tm) (e : Ending) (w' : World) : Prop :=
  Below w.heap.size w w' ∧ ((L = [] ∧ e = .returned (.tuple #[.int .u64 0, .bool false])) ∨ ∃ m : Nat, (∃ x ∈ L, x.t = m) ∧ (∀ x ∈ L, m ≤ x.t) ∧ e = .returned (.tuple #[.int .u64 (m : Int), .bool true]))
theorem tau_of {L : List Tm} (hn : (idsT L).Nodup) {x : Tm} (hx : x ∈ L) : tauT L x.id = x.t := by unfold tauT; rw [gotT_of hn hx]; rfl
theorem spot_kinds (now a : Nat) : spotN now a < 64 ∨ spotN now a = 64 ∨ spotN now a = 80 := by
  have h3 := dig_lt a 3
  have h2 := dig_lt a 2
  have h1 := dig_lt a 1
  have h0 := dig_lt a 0
  unfold spotN
  repeat (split; · omega)
  omega
/-- The first row that has something has what comes first. -/
theorem row_least {now : Nat} {L : List Tm} {R : Nat → List Int} (h : RowsOk now L R) (hn : (idsT L).Nodup) {s m : Nat} (hs : s < 96) (hlate : s = 64 ∨ R 64 = [] ∧ ∀ s', s' < s → s' < 64 → R s' = []) (h1 : ∃ i ∈ R s, tauT L i = m) (h2 : ∀ i ∈ R s, m ≤ tauT L i) :
    (∃ x ∈ L, x.t = m) ∧ ∀ x ∈ L, m ≤ x.t := by
  obtain ⟨i, hi, hm⟩ := h1
  obtain ⟨y, hy, rfl, hys⟩ := ((h s hs).2 i).1 hi
  rw [tau_of hn hy] at hm
  refine ⟨⟨y, hy, hm⟩, fun x hx => ?_⟩
  have hxr : x.id ∈ R (spotN now x.t) := ((h _ (spotN_lt now x.t)).2 x.id).2 ⟨x, hx, rfl, rfl⟩
  by_cases e : spotN now x.t = s
  · rw [e] at hxr
    have := h2 _ hxr
    rwa [tau_of hn hx] at this
  · rcases hlate with rfl | ⟨hl, hall⟩
    · have hyl := spotN_late.1 hys
      have : ¬ x.t ≤ now := fun h9 => e (spotN_late.2 h9)
      omega
    · have hx64 : spotN now x.t ≠ 64 := fun h9 => by rw [h9, hl] at hxr; cases hxr
      have hxn : now < x.t := by
        rcases Nat.lt_or_ge now x.t with h9 | h9
        · exact h9
        · exact absurd (spotN_late.2 h9) hx64
      have hy64 : s ≠ 64 := fun h9 => by subst h9; rw [hl] at hi; cases hi
      have hyn : now < y.t := by
        rcases Nat.lt_or_ge now y.t with h9 | h9
        · exact h9
        · exact absurd ((spotN_late.2 h9).symm.trans hys) hy64.symm
      have hlt : spotN now y.t < spotN now x.t := by
        rw [hys]
        rcases Nat.lt_or_ge (spotN now x.t) s with h9 | h9
        · by_cases h10 : spotN now x.t < 64
          · rw [hall _ h9 h10] at hxr; cases hxr
          · exfalso
            rcases spot_kinds now x.t with h11 | h11 | h11
            · exact h10 h11
            · exact hx64 h11
            · have := spot_kinds now y.t
              omega
        · omega
      have := spotN_order hyn hxn hlt
      omega
end Go.Proofs.Ytkbjlpdmmbldpaa
