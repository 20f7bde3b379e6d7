/- The two wheels tell the same (printed by genwhis.py). -/
import Derived.Test.YtkbjlpdmmbldpaaWhRef4
set_option linter.unusedVariables false
set_option linter.unusedSimpArgs false
set_option maxRecDepth 100000
namespace Go.Proofs.Ytkbjlpdmmbldpaa
open Go.RowKit

theorem min_ex : ∀ (L : List Tm), L ≠ [] → ∃ m, (∃ x ∈ L, x.t = m) ∧ ∀ x ∈ L, m ≤ x.t
  | [], h => (h rfl).elim
  | [x], _ => ⟨x.t, ⟨x, by simp, rfl⟩, by simp⟩
  | x :: y :: M, _ => by
    obtain ⟨m, ⟨z, hz, hm⟩, h2⟩ := min_ex (y :: M) (by simp)
    rcases Nat.le_total m x.t with h | h
    · exact ⟨m, ⟨z, List.mem_cons_of_mem _ hz, hm⟩, fun u hu => by rcases List.mem_cons.1 hu with rfl | hu; exact h; exact h2 u hu⟩
    · exact ⟨x.t, ⟨x, List.mem_cons_self, rfl⟩, fun u hu => by rcases List.mem_cons.1 hu with rfl | hu; exact Nat.le_refl _; exact Nat.le_trans h (h2 u hu)⟩
def NextQ (w : World) (m : Nat) (b : Bool) (e : Ending) (w' : World) : Prop := e = .returned (.tuple #[.int .u64 (m : Int), .bool b]) ∧ Below w.heap.size w w'
theorem next_q (L : List Tm) : ∃ (m : Nat) (b : Bool), ∀ w e w', NextP w L e w' → NextQ w m b e w' := by
  by_cases h : L = []
  · subst h
    refine ⟨0, false, fun w e w' hp => ?_⟩
    rcases hp with ⟨hb, ⟨-, h1⟩ | ⟨m, ⟨x, hx, -⟩, -⟩⟩
    · exact ⟨h1, hb⟩
    · cases hx
  · obtain ⟨m, ⟨x, hx, hm⟩, h2⟩ := min_ex L h
    refine ⟨m, true, fun w e w' hp => ?_⟩
    rcases hp with ⟨hb, ⟨h1, -⟩ | ⟨m2, ⟨y, hy, hm2⟩, h3, h4⟩⟩
    · exact absurd h1 h
    · have a1 := h2 y hy
      have a2 := h3 x hx
      obtain rfl : m2 = m := by omega
      exact ⟨h4, hb⟩
theorem at_T {T : Nat → Prop} {w : World} {p now : Nat} {L : List Tm} (h : WT T w p now L) (i : Int) :
    Calls Try.prog 23 #[.pointer (some ⟨p, 0, none⟩), .int .i64 i] w (RAtP w L i) := by
  obtain ⟨-, -, -, m, sm, rv, R, h4, -⟩ := h
  refine (at_any h4 i).mono ?_
  rintro e w' ⟨rfl, rfl⟩
  refine ⟨?_, Below.refl _ _⟩
  unfold atM tOf
  cases gotT L i <;> rfl
theorem RW.parts {G : Nat → Prop} {w : World} {r now : Nat} {L : List Tm} (h : RW G w r now L) : ∃ a c, Cel w r [.int .u64 (now : Int), .slice a L.length c] ∧ Reads timR w (.slice a L.length c) L := by
  obtain ⟨⟨v, h6, h7, h8, h9⟩, h10⟩ := h
  obtain ⟨a, c, rfl⟩ := h8.form
  exact ⟨a, c, h6, h8.lts timOk⟩

set_option maxHeartbeats 8000000 in
theorem is08_any {T G : Nat → Prop} {w : World} {p r now : Nat} {L : List Tm} (hT : WT T w p now L) (hR : RW G w r now L) (i : Int) (hL : L.length ≤ 40000) :
    Calls Try.prog 22 #[.pointer (some ⟨p, 0, none⟩), .pointer (some ⟨r, 0, none⟩), .int .i64 i] w fun e w' => e = .returned (.bool true) ∧ Below w.heap.size w w' := by
  obtain ⟨a, c, hcel, hrd⟩ := hR.parts
  obtain ⟨m, b, hq⟩ := next_q L
  obtain ⟨tn, htn⟩ : ∃ tn, tn = tOf L i := ⟨_, rfl⟩
  obtain ⟨tb, htb⟩ : ∃ tb, tb = (gotT L i).isSome := ⟨_, rfl⟩
  have HCr := Lib.hid (fun (W : World) (hb : Below w.heap.size w W) => (hcel.below hb).range)
  have HT := Lib.hid (fun (W : World) (hb : Below w.heap.size w W) => hT.below hb)
  have HC := Lib.hid hcel
  have KA := Lib.hid (at_T hT i)
  have KB := Lib.hid (fun (W : World) (hb : Below w.heap.size w W) => rat_any W now _ L i (hrd.below hb) (by omega))
  have KC := Lib.hid (fun (W : World) (hb : Below w.heap.size w W) => (next_any (hT.below hb) (by omega)).mono (hq W))
  have KD := Lib.hid (fun (W : World) (hb : Below w.heap.size w W) => (rnext_any W now _ L (hrd.below hb) (by omega)).mono (hq W))
  unfold RAtP at KA KB
  rw [← htn, ← htb] at KA
  simp only [← htn, ← htb] at KB
  clear hT hR hcel hrd hq htn htb
  go_enter Try.func22, Try.ntmps22
  go_upto_region 2 with (go_at_call 23; refine KA.out.mono ?_; rintro e W1 ⟨rfl, hb1⟩)
  have rr := HCr.out _ hb1
  go_upto_region 3 with (first
    | (refine wpList_load_mid rfl 37 _ rfl r 0 rfl [.int .u64 (now : Int), .slice a L.length c] _ rr Try.underlying37 rfl wRow ?_)
    | (go_at_call 47; refine (KB.out _ hb1).mono ?_; rintro e W2 ⟨rfl, hb2⟩))
  replace hb2 := bthen' hb1 hb2
  clear rr hb1
  go_upto_region 4 with (go_at_call 24; refine (KC.out _ hb2).mono ?_; rintro e W3 ⟨rfl, hb3⟩)
  replace hb3 := bthen' hb2 hb3
  clear hb2
  have rr := HCr.out _ hb3
  go_upto_region 5 with (first
    | (refine wpList_load_mid rfl 37 _ rfl r 0 rfl [.int .u64 (now : Int), .slice a L.length c] _ rr Try.underlying37 rfl wRow ?_)
    | (go_at_call 51; refine (KD.out _ hb3).mono ?_; rintro e W4 ⟨rfl, hb4⟩))
  replace hb4 := bthen' hb3 hb4
  clear rr hb3
  (try simp only [Act.put])
  have k0 := (HC.out.below hb4).get (i := 0) rfl
  have k1 := (HC.out.below hb4).get (i := 1) rfl
  have d0 := fun (z : Later W4) => z.cell k0
  have d1 := fun (z : Later W4) => z.cell k1
  have q1 : ((m : Int) == (m : Int)) = true := by simp
  have q2 : ((tn : Int) == (tn : Int)) = true := by simp
  have q3 : ((now : Int) == (now : Int)) = true := by simp
  have q4 : ((L.length : Int) == (L.length : Int)) = true := by simp
  clear k0 k1 KA KB KC KD HCr
  refine Mix.wp_region_mix [([0, 1, 2, 3, 4, 5, 6, 7, 8, 9, 10, 11, 12, 13, 14, 15, 16, 17, 18, 19, 21, 22, 23, 24, 25], 20), ([26, 27, 28, 29, 31, 32, 33, 34], 30)] [35, 36, 37] (fun w' => ∃ x : Later W4, w' = x.w) (by kernel_rfl) (by kernel_rfl) (Mix.later_drew W4) ?_
  have hb5 : Below W4.heap.size W4 W4.drew := (Below.refl _ _).drew
  generalize W4.drew = W5 at hb5 ⊢
  have KE := Lib.hid (len_any (HT.out _ (bthen' hb4 hb5)) (by omega))
  have KN := Lib.hid (now_T (HT.out _ (bthen' hb4 hb5)))
  refine Mix.stages_cons ?_
  simp only [Mix.pickL, List.getElem?_cons_zero, List.getElem?_cons_succ]
  repeat (first
    | go_big_quiet_skip
    | (go_big_quiet_want; (go_big_quiet_op; go_big_quiet_on)))
  refine wpQuiet_nil ?_
  go_wp2_with (go_at_call 14; refine KE.out.mono ?_; rintro e w' ⟨rfl, rfl⟩)
  refine Mix.onward_normal hb5 ?_
  have k5 := (HC.out.below (bthen' hb4 hb5)).get (i := 0) rfl
  have e0 := fun (z : Later W5) => z.cell k5
  clear k5
  refine Mix.stages_cons ?_
  simp only [Mix.pickL, List.getElem?_cons_zero, List.getElem?_cons_succ]
  repeat (first
    | go_big_quiet_skip
    | (go_big_quiet_want; (go_big_quiet_op; go_big_quiet_on)))
  refine wpQuiet_nil ?_
  go_wp2_with (go_at_call 15; refine KN.out.mono ?_; rintro e w' ⟨rfl, rfl⟩)
  refine Mix.onward_normal (Below.refl W5.heap.size W5) ?_
  refine Mix.stages_nil ?_
  simp only [Mix.pickL, List.getElem?_cons_zero, List.getElem?_cons_succ]
  repeat (first
    | go_big_quiet_skip
    | (go_big_quiet_want; (go_big_quiet_op; go_big_quiet_on)))
  refine wpQuiet_nil ?_
  clear e0 d0 d1 q1 q2 q3 q4
  go_wp2_with fail
  go_ret
  exact ⟨rfl, bthen' hb4 hb5⟩
end Go.Proofs.Ytkbjlpdmmbldpaa
