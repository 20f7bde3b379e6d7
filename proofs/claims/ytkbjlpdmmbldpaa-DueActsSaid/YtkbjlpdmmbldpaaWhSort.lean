/- Turn's closure; slices.SortFunc at ints with cmp.Compare. -/
import Derived.Test.YtkbjlpdmmbldpaaWhCut
import Derived.Sort.OwnSortedInts
set_option linter.unusedVariables false
set_option linter.unusedSimpArgs false
set_option maxRecDepth 100000
namespace Go.Proofs.Ytkbjlpdmmbldpaa
open Go.RowKit Go.Lib Go.Sort Go.Shelf

theorem atM_tau0 (L : List Tm) (i : Int) : (atM L i).getD (.int .u64 0) = .int .u64 ((tauT L i : Nat) : Int) := by
  unfold atM tauT
  cases gotT L i <;> rfl
theorem turn1_any {T : Nat → Prop} {w : World} {p now m sm n : Nat} {rv : Nat → Value} {S : Int → Option Value} {R : Nat → List Int} {L : List Tm} (h : WMem T w p now m sm n rv (atM L) S R) (q q6 a : Nat) (hq : w.cell? ⟨q, 0, none⟩ = some (.pointer (some ⟨p, 0, none⟩))) (hq6 : w.cell? ⟨q6, 0, none⟩ = some (.int .u64 (a : Int))) (x : Int) :
    Calls Try.prog 43 #[.int .i64 x, .pointer (some ⟨q, 0, none⟩), .pointer (some ⟨q6, 0, none⟩)] w fun e w' => e = .returned (.bool (decide (tauT L x ≠ a))) ∧ Below w.heap.size w w' := by
  have c1 := h.c1
  have HM := Lib.hid h.ats
  have d1 := fun (z : Later w) => z.cell hq
  have d2 := fun (z : Later w) => z.cell hq6
  have d3 := fun (z : Later w) => z.cell c1
  have HMC := Lib.hid (fun (w' : World) (hx : ∃ x : Later w, w' = x.w) => (show MapF (intK 3) w' m (atM L) n from by obtain ⟨z, rfl⟩ := hx; exact HM.out.below z.h))
  have HV := Lib.hid (atM_tau0 L x)
  clear h hq hq6 c1
  go_enter Try.func43, Try.ntmps43
  go_upto_region 1 with fail
  refine wp_region_later (by kernel_rfl) (by kernel_rfl) (Below.refl _ _) ?_
  repeat (first
    | go_big_quiet_skip
    | (go_big_quiet_want; first
      | (refine quiet_lookup intWith _ _ 72 22 rfl Try.underlying72 (z := .int .u64 0) (fun w => Try.zeroValue22 w) rfl HMC.out x rfl ?_; rw [HV.out]; simp only [Act.put, List.setIfInBounds_toArray, List.set_cons_succ, List.set_cons_zero]; go_big_quiet_on)
      | (go_big_quiet_op; go_big_quiet_on)))
  refine wpQuiet_nil ?_
  rintro ⟨W1, hb1⟩
  dsimp only
  go_wp2_with fail
  go_ret
  refine ⟨?_, hb1⟩
  by_cases e : tauT L x = a
  · simp [e]
  · have e2 : ((tauT L x : Nat) : Int) ≠ (a : Int) := by omega
    simp [e, e2]
theorem ltI (x y : Int) : ltOf Lib.compareInt x y = decide (x < y) := by
  unfold ltOf Lib.compareInt
  by_cases h1 : x < y
  · simp [h1]
  · by_cases h2 : y < x <;> simp [h1, h2]
theorem swoI : SWO (ltOf Lib.compareInt) where
  irrefl x := by rw [ltI]; simp
  trans x y z h1 h2 := by rw [ltI] at *; simp at *; omega
  ntrans x y z h1 h2 := by rw [ltI] at *; simp at *; omega
def SortP (w : World) (B : Nat) (v : Value) (X : List Int) (e : Ending) (w' : World) : Prop := e = .returned (.tuple #[]) ∧ ∃ Y : List Int, Y.Perm X ∧ Y.Pairwise (· ≤ ·) ∧ Owns intR B w' v Y ∧ ∃ F, (∀ k ∈ F, v.ownBlock = some k) ∧ Upd F w w'
theorem sortF_any (w : World) (v : Value) (X : List Int) (B : Nat) (h : Owns intR B w v X) (hX : X ≠ []) (hbig : X.length ≤ 100000) :
    Calls Try.prog 44 #[v, .func (.func 45) #[] #[]] w (SortP w B v X) := by
  rcases h.2 with ⟨rfl, h0⟩ | ⟨g, cap, cur, rfl, h1, hg, h2, h3, hs, ht⟩
  · exact absurd (List.eq_nil_of_length_eq_zero h0) hX
  · have ht' : cur.toList.take X.length = X.map (.int .i64) := by rw [int_flat] at ht; simpa [intR] using ht
    have eg : ∀ args w, (callFunc 45 args).run Try.prog w = .ok (.enter 45 args) w := enters_of Try.func45 (by kernel_rfl) rfl
    have hcmp : Go.Proofs.CmpReads Try.prog 45 #[] (Value.int .i64) Lib.compareInt g 0 X.toArray.size w := fun m os dk _ x y => (Try.cmp_Compare_int x y _).mono fun e w' ⟨he, hw⟩ => ⟨he, 0, hw⟩
    have hS := Try.slices_SortFunc (Value.int .i64) (fun _ => rfl) Lib.compareInt swoI 45 #[] g 0 cap X.toArray w eg hcmp.lays (Go.holds_of_blockI hg ht') (Array.getElem?_eq_some_iff.1 hg).1 (by simp; omega)
    simp only [List.size_toArray] at hS
    refine hS.mono ?_
    rintro e w' ⟨rfl, d', n, os, ⟨p1, -, p3⟩, hsort, rfl⟩
    have hsz : d'.size = X.length := by simpa using p1
    have e1 : d'.extract 0 X.length = d' := by rw [← hsz]; simp
    have e2 : X.toArray.extract 0 X.length = X.toArray := by simp
    rw [e1, e2] at p3
    have hl : d'.toList.length = X.length := by simpa using hsz
    refine ⟨rfl, d'.toList, by simpa using p3, ?_, ?_, [g], by simp [Value.ownBlock], ?_⟩
    · rw [List.pairwise_iff_getElem]
      intro i j hi hj hij
      have := hsort i j (Nat.zero_le _) hij (by omega)
      rw [ltI] at this
      have h5 := of_decide_eq_false this
      simp at hi hj
      simp [hi, hj] at h5
      simpa using h5
    · have := Go.ownsRow_sortedI (n := n) (os := os) (ts := d'.toList) hl h1 hg h2 h3 (by simpa [intR] using hs)
      unfold Owns
      rw [int_flat, hl]
      exact this
    · have hgb := Go.grownBy_sortedI (w := w) (g := g) (n := n) (os := os) d'
      exact ⟨hgb.os, hgb.tape, hgb.output, hgb.size, fun k hk hn => hgb.block k hk (fun e => hn (by cases e; simp))⟩
end Go.Proofs.Ytkbjlpdmmbldpaa
