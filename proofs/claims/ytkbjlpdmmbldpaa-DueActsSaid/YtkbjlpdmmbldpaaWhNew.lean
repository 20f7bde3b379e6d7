/- A wheel that is made; the page's example; put. -/
import Derived.Test.YtkbjlpdmmbldpaaWhTurn
import Derived.Laws.StructEq
set_option linter.unusedVariables false
set_option linter.unusedSimpArgs false
set_option maxRecDepth 100000
namespace Go.Proofs.Ytkbjlpdmmbldpaa
open Go.RowKit

theorem wl_built {ops : Array Oper} {rest : List Oper} {o : Oper} {a : Act} {w : World} {Q : Exit → Act → World → Prop} (hg : o.guard = none) (t : TypeId) (parts : Array (Nat × Operand)) (ho : o.op = .build t parts)
    (ps : List (Nat × Value)) (hps : (parts.map fun (i, x) => (i, a.eval x)).toList = ps) (cs : Array Value) (hb : Try.prog.built t ps = some cs)
    (h : wpList Try.prog ops Q rest (a.put o.dst (.agg cs)) w) : wpList Try.prog ops Q (o :: rest) a w := by
  refine wpList_build hg t parts ho ?_ ?_
  · rw [hps, hb]; rfl
  · rw [hps, hb]; exact h
def nilW : Nat → Value := fun _ => .slice none 0 0
theorem builtW (now m sm : Nat) : Try.prog.built 78 [(0, .int .u64 (now : Int)), (1, .map (some m)), (2, .map (some sm))] = some (cellsW now m sm nilW).toArray := by kernel_rfl
def NewP (w : World) (now : Nat) (e : Ending) (w' : World) : Prop := ∃ p, e = .returned (.pointer (some ⟨p, 0, none⟩)) ∧ Below w.heap.size w w' ∧ WT (fun k => w.heap.size ≤ k ∧ k < w'.heap.size) w' p now []
set_option maxHeartbeats 2000000 in
theorem new_any (w : World) (now : Nat) (hnow : now < 18446744073709551616) : Calls Try.prog 10 #[.int .u64 (now : Int)] w (NewP w now) := by
  have hmm := @run_makeMap Try.prog
  have hM := MapF.made (intK 3) w
  have hb1 : Below w.heap.size w (w.alloc (.map #[] 0)) := (Below.refl _ _).alloc (Nat.le_refl _) _
  have hs1 : (w.alloc (.map #[] 0)).heap.size = w.heap.size + 1 := by simp
  obtain ⟨W1, hW1⟩ : ∃ W1, W1 = w.alloc (.map #[] 0) := ⟨_, rfl⟩
  rw [← hW1] at hM hb1 hs1
  have hF := MapF.made (intK 3) W1
  have hb2 : Below W1.heap.size W1 (W1.alloc (.map #[] 0)) := (Below.refl _ _).alloc (Nat.le_refl _) _
  have hs2 : (W1.alloc (.map #[] 0)).heap.size = W1.heap.size + 1 := by simp
  obtain ⟨W2, hW2⟩ : ∃ W2, W2 = W1.alloc (.map #[] 0) := ⟨_, rfl⟩
  rw [← hW2] at hF hb2 hs2
  have hT := Cel.new W2 78 (cellsW now w.heap.size (w.heap.size + 1) nilW)
  have hb3 : Below W2.heap.size W2 (W2.alloc (.cells (cellsW now w.heap.size (w.heap.size + 1) nilW).toArray 78)) := (Below.refl _ _).alloc (Nat.le_refl _) _
  have hs3 : (W2.alloc (.cells (cellsW now w.heap.size (w.heap.size + 1) nilW).toArray 78)).heap.size = W2.heap.size + 1 := by simp
  rw [hs1] at hF
  have fin := Lib.hid (show Below w.heap.size w (W2.alloc (.cells (cellsW now w.heap.size (w.heap.size + 1) nilW).toArray 78)) ∧ WT (fun k => w.heap.size ≤ k ∧ k < (W2.alloc (.cells (cellsW now w.heap.size (w.heap.size + 1) nilW).toArray 78)).heap.size) (W2.alloc (.cells (cellsW now w.heap.size (w.heap.size + 1) nilW).toArray 78)) W2.heap.size now [] from by
    refine ⟨bthen' (bthen' hb1 hb2) hb3, hnow, by simp, List.nodup_nil, w.heap.size, w.heap.size + 1, nilW, fun _ => [], ⟨hT, (hM.below hb2).below hb3, ⟨0, hF.below hb3⟩, fun s hs => Owns.nil _ _ _, ⟨by omega, by omega, by omega⟩, fun s hs k hk => by simp [nilW, Value.ownBlock] at hk, fun s s' _ _ _ k hk => by simp [nilW, Value.ownBlock] at hk, ⟨⟨by omega, by omega⟩, ⟨by omega, by omega⟩, ⟨by omega, by omega⟩⟩, fun k hk => hk.2⟩, fun s hs => ⟨List.nodup_nil, fun i => by simp⟩⟩)
  clear hM hF hT hb1 hb2 hb3 hs3
  go_enter Try.func10, Try.ntmps10
  go_wp2_with (refine wl_built rfl 78 _ rfl [(0, .int .u64 (now : Int)), (1, .map (some w.heap.size)), (2, .map (some (w.heap.size + 1)))] (by simp [Act.eval, Act.put]) _ (builtW now w.heap.size (w.heap.size + 1)) ?_)
  go_ret
  subst hW2
  subst hW1
  exact ⟨_, rfl, by simpa using fin.out.1, by simpa using fin.out.2⟩
theorem num_any (w : World) (x : Int) : Calls Try.prog 16 #[.int .i64 x] w fun e w' => e = .returned (.int .i64 x) ∧ w = w' := by
  go_enter Try.func16, Try.ntmps16
  go_wp2_with fail
  go_ret
  exact ⟨rfl, rfl⟩
theorem putT_k {L : List Tm} (h : ∀ x ∈ L, x.k = 0) (i : Int) (t : Nat) : ∀ x ∈ putT L i t, x.k = 0 := by
  intro x hx
  unfold putT at hx
  split at hx
  · rcases List.mem_append.1 hx with hx | hx
    · exact h x hx
    · simp at hx; subst hx; rfl
  · exact h x hx
theorem putT_len (L : List Tm) (i : Int) (t : Nat) : (putT L i t).length ≤ L.length + 1 := by unfold putT; split <;> simp
theorem tim_id {w : World} {b o k : Nat} {x : Tm} (h : w.rangeAt b (o + k * timR.n) (timR.cells x)) : w.cell? ⟨b, o + k * 3 + 1, none⟩ = some (.int .i64 x.id) := by have := h 1 _ rfl; simpa [timR] using this
/-- A wheel that stands. -/
def Stands (w wr : World) (p now : Nat) (L : List Tm) : Prop := Below w.heap.size w wr ∧ (∀ x ∈ L, x.k = 0) ∧ ∃ T : Nat → Prop, (∀ k, T k → w.heap.size ≤ k) ∧ WT T wr p now L
theorem Stands.below' {w wr w' : World} {p now : Nat} {L : List Tm} (h : Stands w wr p now L) (hb : Below wr.heap.size wr w') : Stands w w' p now L := by
  obtain ⟨h1, h2, T, h3, h4⟩ := h
  exact ⟨bthen' h1 hb, h2, T, h3, h4.below hb⟩
theorem Stands.turn {w wr w' : World} {p now2 : Nat} {L2 : List Tm} {T : Nat → Prop} (hb : Below w.heap.size w wr) (hk : ∀ x ∈ L2, x.k = 0) (hT : ∀ k, T k → w.heap.size ≤ k) (hu : UpdP T wr w') (ho : WT (Gr T wr w') w' p now2 L2) : Stands w w' p now2 L2 := by
  have h1 := hb.size
  refine ⟨hu.toB hb h1 hT, hk, _, fun k hk => ?_, ho⟩
  rcases hk with hk | hk
  · exact hT k hk
  · omega
theorem Stands.made {w w' : World} {p now : Nat} (hb : Below w.heap.size w w') (h : WT (fun k => w.heap.size ≤ k ∧ k < w'.heap.size) w' p now []) : Stands w w' p now [] := ⟨hb, by simp, _, fun k hk => hk.1, h⟩
def PutS (w wr : World) (p now : Nat) (L : List Tm) (i : Int) (t : Nat) (e : Ending) (w' : World) : Prop := e = .returned (.int .i64 (putE L i)) ∧ Stands w w' p now (putT L i t) ∧ Below w.heap.size w w'
theorem put_S {w wr : World} {p now : Nat} {L : List Tm} (h : Stands w wr p now L) (i : Int) (t : Nat) (ht : t < 18446744073709551616) (hL : L.length ≤ 30000) : Calls Try.prog 17 #[.pointer (some ⟨p, 0, none⟩), .int .i64 i, .int .u64 (t : Int)] wr (PutS w wr p now L i t) := by
  obtain ⟨h1, h2, T, h3, h4⟩ := h
  refine (put_any h4 i t ht (by omega)).mono ?_
  rintro e w' ⟨rfl, hu, hw⟩
  have := Stands.turn h1 (putT_k h2 i t) h3 hu hw
  exact ⟨rfl, this, this.1⟩
def TurnS (w wr : World) (p now : Nat) (L : List Tm) (to2 : Nat) (e : Ending) (w' : World) : Prop :=
  ∃ (ov : Value) (out : List Tm), e = .returned ov ∧ TurnOk L to2 out ∧ Reads timR w' ov out ∧ Stands w w' p (max now to2) (restT L to2) ∧ ∃ T' : Nat → Prop, (∀ k, T' k → w.heap.size ≤ k) ∧ WT T' w' p (max now to2) (restT L to2) ∧ (∀ k, ov.ownBlock = some k → ¬ T' k) ∧ UpdP (fun k => w.heap.size ≤ k) wr w' ∧ Owns timR wr.heap.size w' ov out
theorem turn_S {w wr : World} {p now : Nat} {L : List Tm} (h : Stands w wr p now L) (to2 : Nat) (ht : to2 < 18446744073709551616) (hL : L.length ≤ 30000) : Calls Try.prog 12 #[.pointer (some ⟨p, 0, none⟩), .int .u64 (to2 : Int)] wr (TurnS w wr p now L to2) := by
  obtain ⟨h1, h2, T, h3, h4⟩ := h
  refine (turn_any h4 h2 to2 ht (by omega)).mono ?_
  rintro e w' ⟨ov, out, rfl, hu, ⟨T', hw, hg, hn⟩, ho, hok⟩
  have hlo : ∀ k, T' k → w.heap.size ≤ k := fun k hk => by
    have := h1.size
    rcases hg k hk with h9 | h9
    · exact h3 k h9
    · omega
  exact ⟨ov, out, rfl, hok, ho.lts timOk, ⟨hu.toB h1 h1.size h3, fun x hx => h2 x (List.mem_filter.1 hx).1, T', hlo, hw⟩, T', hlo, hw, hn, ⟨hu.os, hu.tape, hu.output, hu.size, fun k hk h9 => hu.block k hk (fun h10 => h9 (h3 k h10))⟩, ho⟩
set_option maxHeartbeats 4000000 in
theorem live08_any (w : World) : Calls Try.prog 9 #[] w fun e w' => e = .returned (.bool true) ∧ Below w.heap.size w w' := by
  have KN := Lib.hid (new_any w 0 (by decide))
  go_enter Try.func9, Try.ntmps9
  go_upto_region 2 with (go_at_call 10; refine KN.out.mono ?_; rintro e W1 ⟨p, rfl, hb1, hw1⟩; have HS1 := Lib.hid (Stands.made hb1 hw1); clear hb1 hw1)
  have K1 := Lib.hid (put_S HS1.out 3 20 (by decide) (by simp))
  go_upto_region 3 with (first
    | (go_at_call 17; refine K3.out.mono ?_; rintro e W4 ⟨rfl, hs4, -⟩; have HS4 := Lib.hid hs4; clear hs4)
    | (go_at_call 17; refine K2.out.mono ?_; rintro e W3 ⟨rfl, hs3, -⟩; have HS3 := Lib.hid hs3; clear hs3; have K3 := Lib.hid (put_S HS3.out 2 5 (by decide) (by decide)))
    | (go_at_call 17; refine K1.out.mono ?_; rintro e W2 ⟨rfl, hs2, -⟩; have HS2 := Lib.hid hs2; clear hs2; have K2 := Lib.hid (put_S HS2.out 1 20 (by decide) (by decide))))
  have hL4 := HS4.out
  rw [show putT (putT (putT [] 3 20) 1 20) 2 5 = [⟨0, 3, 20⟩, ⟨0, 1, 20⟩, ⟨0, 2, 5⟩] from by decide] at hL4
  have KT := Lib.hid (turn_S hL4 20 (by decide) (by decide))
  have e1 : putE [] 3 = 0 := by decide
  have e2 : putE (putT [] 3 20) 1 = 0 := by decide
  have e3 : putE (putT (putT [] 3 20) 1 20) 2 = 0 := by decide
  rw [e1, e2, e3]
  clear e1 e2 e3 hL4 HS1 HS2 HS3 K1 K2 K3 KN HS4
  go_upto_region 4 with (go_at_call 12; refine KT.out.mono ?_; rintro e W5 ⟨ov, out, rfl, hok, hrd, hs5, -⟩; have HOK := Lib.hid hok; have HRD := Lib.hid hrd; have HS5 := Lib.hid hs5; clear hok hrd hs5)
  have hout : out = [⟨0, 2, 5⟩, ⟨0, 1, 20⟩, ⟨0, 3, 20⟩] := HOK.out.unique ⟨by unfold ltT; decide, fun x => by
    constructor
    · intro h; simp at h; rcases h with rfl | rfl | rfl <;> simp
    · rintro ⟨h, -⟩; simp at h; rcases h with rfl | rfl | rfl <;> simp⟩
  subst hout
  obtain ⟨b, off, c, rfl, hrr⟩ : ∃ b off c, ov = .slice (some ⟨b, off, none⟩) 3 c ∧ ∀ i x, ([⟨0, 2, 5⟩, ⟨0, 1, 20⟩, ⟨0, 3, 20⟩] : List Tm)[i]? = some x → W5.rangeAt b (off + i * timR.n) (timR.cells x) := by
    rcases HRD.out with ⟨h, -⟩ | ⟨b, off, c, h1, h2⟩
    · cases h
    · exact ⟨b, off, c, h1, h2⟩
  have i0 : W5.cell? ⟨b, off + 1, none⟩ = some (.int .i64 2) := by have := tim_id (hrr 0 _ rfl); simpa using this
  have i1 : W5.cell? ⟨b, off + 3 + 1, none⟩ = some (.int .i64 1) := by have := tim_id (hrr 1 _ rfl); simpa using this
  have i2 : W5.cell? ⟨b, off + 6 + 1, none⟩ = some (.int .i64 3) := by have := tim_id (hrr 2 _ rfl); simpa using this
  obtain ⟨hbel, -, T5, -, hw5⟩ := HS5.out
  obtain ⟨-, -, -, m5, sm5, rv5, R5, hm5, -⟩ := hw5
  have KW := Lib.hid (now_any hm5)
  have HB := Lib.hid hbel
  clear hm5 hrr hbel KT HOK HRD
  go_wp2_with (first
    | (go_at_call 16; refine (num_any _ _).mono ?_; rintro e w' ⟨rfl, rfl⟩)
    | (go_at_call 15; refine KW.out.mono ?_; rintro e w' ⟨rfl, rfl⟩))
  go_ret
  exact ⟨rfl, HB.out⟩
end Go.Proofs.Ytkbjlpdmmbldpaa
