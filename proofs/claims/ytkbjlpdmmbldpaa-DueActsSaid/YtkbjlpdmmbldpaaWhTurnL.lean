/- What comes of a turn: plain laws; the memory while it turns. -/
import Derived.Test.YtkbjlpdmmbldpaaWhSort
set_option linter.unusedVariables false
set_option linter.unusedSimpArgs false
set_option maxRecDepth 100000
namespace Go.Proofs.Ytkbjlpdmmbldpaa
open Go.RowKit

def ltT (x y : Tm) : Prop := x.t < y.t ∨ (x.t = y.t ∧ x.id < y.id)
structure TurnOk (L : List Tm) (to2 : Nat) (out : List Tm) : Prop where
  srt : out.Pairwise ltT
  mem : ∀ x, x ∈ out ↔ x ∈ L ∧ x.t ≤ to2
theorem sorted_eq : ∀ {A B : List Tm}, A.Pairwise ltT → B.Pairwise ltT → (∀ x, x ∈ A ↔ x ∈ B) → A = B
  | [], [], _, _, _ => rfl
  | [], b :: B, _, _, h => by have := (h b).2 List.mem_cons_self; cases this
  | a :: A, [], _, _, h => by have := (h a).1 List.mem_cons_self; cases this
  | a :: A, b :: B, ha, hb, h => by
    have ha' := List.pairwise_cons.1 ha
    have hb' := List.pairwise_cons.1 hb
    have irr : ∀ {x y : Tm}, ltT x y → ltT y x → False := fun h1 h2 => by unfold ltT at h1 h2; omega
    have e : a = b := by
      rcases List.mem_cons.1 ((h a).1 List.mem_cons_self) with e | h1
      · exact e
      · rcases List.mem_cons.1 ((h b).2 List.mem_cons_self) with e | h2
        · exact e.symm
        · exact (irr (ha'.1 b h2) (hb'.1 a h1)).elim
    subst e
    have self : ∀ x, ltT x x → False := fun x h1 => irr h1 h1
    congr 1
    refine sorted_eq ha'.2 hb'.2 (fun x => ⟨fun hx => ?_, fun hx => ?_⟩)
    · rcases List.mem_cons.1 ((h x).1 (List.mem_cons_of_mem _ hx)) with e | h1
      · subst e; exact (self _ (ha'.1 _ hx)).elim
      · exact h1
    · rcases List.mem_cons.1 ((h x).2 (List.mem_cons_of_mem _ hx)) with e | h1
      · subst e; exact (self _ (hb'.1 _ hx)).elim
      · exact h1
theorem TurnOk.unique {L : List Tm} {to2 : Nat} {A B : List Tm} (h : TurnOk L to2 A) (h' : TurnOk L to2 B) : A = B := sorted_eq h.srt h'.srt (fun x => by rw [h.mem, h'.mem])
def restT (L : List Tm) (to2 : Nat) : List Tm := L.filter fun x => decide (to2 < x.t)
structure Part (L : List Tm) (to2 now nc : Nat) (Lc out : List Tm) : Prop where
  srt : out.Pairwise ltT
  mem : ∀ x ∈ out, x ∈ L ∧ x.t ≤ to2
  rest : Lc = L.filter fun x => decide (x ∉ out)
  ord : ∀ x ∈ out, ∀ y ∈ Lc, x.t < y.t
  nw : now ≤ nc ∧ nc ≤ max now to2
theorem Part.start (L : List Tm) (to2 now : Nat) : Part L to2 now now L [] := ⟨List.Pairwise.nil, by simp, (List.filter_eq_self.2 (fun x _ => by simp)).symm, by simp, by omega, by omega⟩
theorem Part.fin {L : List Tm} {to2 now nc : Nat} {Lc out : List Tm} (h : Part L to2 now nc Lc out) (hall : ∀ y ∈ Lc, to2 < y.t) : TurnOk L to2 out ∧ Lc = restT L to2 := by
  refine ⟨⟨h.srt, fun x => ⟨h.mem x, fun ⟨h1, h2⟩ => ?_⟩⟩, ?_⟩
  · by_cases hx : x ∈ out
    · exact hx
    · have := hall x (by rw [h.rest]; exact List.mem_filter.2 ⟨h1, decide_eq_true hx⟩)
      omega
  · rw [h.rest]
    unfold restT
    refine List.filter_congr fun x hx => ?_
    by_cases ho : x ∈ out
    · have := (h.mem x ho).2
      rw [decide_eq_false (by simpa using ho), decide_eq_false (by omega)]
    · have := hall x (by rw [h.rest]; exact List.mem_filter.2 ⟨hx, decide_eq_true ho⟩)
      rw [decide_eq_true ho, decide_eq_true this]
def butAll (L : List Tm) (B : List Int) : List Tm := L.filter fun x => decide (x.id ∉ B)
def mkT (m : Nat) (i : Int) : Tm := ⟨0, i, m⟩
theorem butAll_nil (L : List Tm) : butAll L [] = L := by unfold butAll; rw [List.filter_eq_self]; intro x _; simp
theorem butAll_snoc (L : List Tm) (B : List Int) (i : Int) : butT (butAll L B) i = butAll L (B ++ [i]) := by
  unfold butT butAll
  rw [List.filter_filter]
  refine List.filter_congr fun x _ => ?_
  by_cases h1 : x.id ∈ B
  · simp [h1]
  · by_cases h2 : x.id = i
    · simp [h1, h2]
    · simp [h1, h2]
/-- What is due at a tick: its numbers, rising. -/
structure DueAt (Lc : List Tm) (m : Nat) (Y : List Int) : Prop where
  srt : Y.Pairwise (· < ·)
  mem : ∀ i, i ∈ Y ↔ ∃ x ∈ Lc, x.id = i ∧ x.t = m
theorem Part.step {L : List Tm} {to2 now nc m : Nat} {Lc out : List Tm} {Y : List Int} (h : Part L to2 now nc Lc out) (hn : (idsT L).Nodup) (hk : ∀ x ∈ L, x.k = 0) (hmin : ∀ x ∈ Lc, m ≤ x.t) (hto : m ≤ to2) (hY : DueAt Lc m Y) :
    Part L to2 now (max nc m) (butAll Lc Y) (out ++ Y.map (mkT m)) := by
  have hsub : ∀ x, x ∈ Lc ↔ x ∈ L ∧ x ∉ out := fun x => by rw [h.rest, List.mem_filter]; simp
  have hid : ∀ x ∈ Lc, x.t = m → x = mkT m x.id := fun x hx e => by
    have := hk x ((hsub x).1 hx).1
    obtain ⟨k, i, t⟩ := x
    simp at this e
    subst this e
    rfl
  have hYm : ∀ x, x ∈ Y.map (mkT m) ↔ x ∈ Lc ∧ x.t = m := fun x => by
    rw [List.mem_map]
    constructor
    · rintro ⟨i, hi, rfl⟩
      obtain ⟨y, hy, rfl, e⟩ := (hY.mem i).1 hi
      rw [← hid y hy e]
      exact ⟨hy, e⟩
    · rintro ⟨hx, e⟩
      exact ⟨x.id, (hY.mem _).2 ⟨x, hx, rfl, e⟩, (hid x hx e).symm⟩
  have hbut : ∀ x, x ∈ butAll Lc Y ↔ x ∈ Lc ∧ x.t ≠ m := fun x => by
    unfold butAll
    rw [List.mem_filter]
    constructor
    · rintro ⟨hx, hd⟩
      exact ⟨hx, fun e => of_decide_eq_true hd ((hY.mem _).2 ⟨x, hx, rfl, e⟩)⟩
    · rintro ⟨hx, e⟩
      refine ⟨hx, decide_eq_true fun hin => e ?_⟩
      obtain ⟨y, hy, he, et⟩ := (hY.mem _).1 hin
      have a := gotT_of hn ((hsub y).1 hy).1
      rw [he, gotT_of hn ((hsub x).1 hx).1] at a
      rw [Option.some.inj a]; exact et
  refine ⟨?_, fun x hx => ?_, ?_, fun x hx y hy => ?_, ?_⟩
  · rw [List.pairwise_append]
    refine ⟨h.srt, ?_, fun x hx y hy => ?_⟩
    · rw [List.pairwise_map]
      exact hY.srt.imp (fun h9 => .inr ⟨rfl, h9⟩)
    · obtain ⟨h1, h2⟩ := (hYm y).1 hy
      exact .inl (h.ord x hx y h1)
  · rcases List.mem_append.1 hx with hx | hx
    · exact h.mem x hx
    · obtain ⟨h1, h2⟩ := (hYm x).1 hx
      exact ⟨((hsub x).1 h1).1, by omega⟩
  · have e1 : butAll Lc Y = Lc.filter fun x => decide (x ∉ Y.map (mkT m)) := by
      unfold butAll
      refine List.filter_congr fun x hx => ?_
      by_cases e : x.t = m
      · rw [decide_eq_false (by simpa using (hY.mem _).2 ⟨x, hx, rfl, e⟩), decide_eq_false (by simpa using (hYm x).2 ⟨hx, e⟩)]
      · have a1 : x.id ∉ Y := of_decide_eq_true (List.mem_filter.1 ((hbut x).2 ⟨hx, e⟩)).2
        have a2 : x ∉ Y.map (mkT m) := fun h9 => e ((hYm x).1 h9).2
        rw [decide_eq_true a1, decide_eq_true a2]
    rw [e1, h.rest, List.filter_filter]
    refine List.filter_congr fun x _ => ?_
    by_cases h1 : x ∈ out
    · simp [h1]
    · by_cases h2 : x ∈ Y.map (mkT m)
      · have a1 : ¬ (x ∉ out ++ Y.map (mkT m)) := fun h9 => h9 (List.mem_append_right _ h2)
        have a2 : ¬ (x ∉ Y.map (mkT m)) := fun h9 => h9 h2
        rw [decide_eq_false a2, decide_eq_false a1]; simp
      · have a1 : x ∉ out ++ Y.map (mkT m) := fun h9 => by
          rcases List.mem_append.1 h9 with h9 | h9
          · exact h1 h9
          · exact h2 h9
        rw [decide_eq_true h1, decide_eq_true h2, decide_eq_true a1]; rfl
  · obtain ⟨h1, h2⟩ := (hbut y).1 hy
    rcases List.mem_append.1 hx with hx | hx
    · exact h.ord x hx y h1
    · have := (hYm x).1 hx
      have := hmin y h1
      omega
  · have := h.nw; omega
/-- While it turns: the wheel, a list of one's own beside it, and blocks K that neither touches. -/
structure TM (T K : Nat → Prop) (w wr : World) (p now : Nat) (L : List Tm) (ov : Value) (out : List Tm) : Prop where
  upd : UpdP T w wr
  wt : ∃ T' : Nat → Prop, WT T' wr p now L ∧ (∀ k, T' k → Gr T w wr k) ∧ (∀ k, ov.ownBlock = some k → ¬ T' k) ∧ ∀ k, K k → ¬ T' k
  own : Owns timR w.heap.size wr ov out
  kk : ∀ k, K k → ov.ownBlock ≠ some k ∧ w.heap.size ≤ k ∧ k < wr.heap.size
def Keeps (K : Nat → Prop) (wr w' : World) : Prop := ∀ k, K k → w'.heap[k]? = wr.heap[k]?
theorem TM.below {T K : Nat → Prop} {w wr w' : World} {p now : Nat} {L : List Tm} {ov : Value} {out : List Tm} (h : TM T K w wr p now L ov out) (hb : Below wr.heap.size wr w') : TM T K w w' p now L ov out ∧ Keeps K wr w' := by
  obtain ⟨hu, ⟨T', h1, h2, h3, h4⟩, ho, hk⟩ := h
  have hs := hb.size
  exact ⟨⟨hu.trans (UpdP.ofB hb), ⟨T', h1.below hb, fun k hk => gr_self hs (h2 k hk), h3, h4⟩, ho.below hb, fun k hk2 => ⟨(hk k hk2).1, (hk k hk2).2.1, by have := (hk k hk2).2.2; omega⟩⟩, fun k hk2 => hb.block k (hk k hk2).2.2⟩
theorem TM.turn {T K : Nat → Prop} {w wr w' : World} {p now2 : Nat} {L2 : List Tm} {ov : Value} {out : List Tm} {T' : Nat → Prop} (hu : UpdP T w wr) (ho : Owns timR w.heap.size wr ov out) (hk : ∀ k, K k → ov.ownBlock ≠ some k ∧ w.heap.size ≤ k ∧ k < wr.heap.size)
    (h2 : ∀ k, T' k → Gr T w wr k) (h3 : ∀ k, ov.ownBlock = some k → ¬ T' k) (h4 : ∀ k, K k → ¬ T' k) (hU : UpdP T' wr w') (hW : WT (Gr T' wr w') w' p now2 L2) : TM T K w w' p now2 L2 ov out ∧ Keeps K wr w' := by
  have hs := hU.size
  have hw := hu.size
  have hF : Upd ((List.range wr.heap.size).filter fun x => @decide (T' x) (Classical.propDecidable _)) wr w' := ⟨hU.os, hU.tape, hU.output, hU.size, fun x hx hn => hU.block x hx (fun hp => hn (List.mem_filter.2 ⟨List.mem_range.2 hx, @decide_eq_true _ (Classical.propDecidable _) hp⟩))⟩
  refine ⟨⟨hu.trans ⟨hU.os, hU.tape, hU.output, hU.size, fun x hx hn => hU.block x hx (fun h9 => hn (h2 x h9))⟩, ⟨_, hW, fun k hk9 => ?_, fun k hk9 h9 => ?_, fun k hk9 h9 => ?_⟩, ho.upd hF (fun x hx hin => h3 x hx (@of_decide_eq_true _ (Classical.propDecidable _) (List.mem_filter.1 hin).2)), fun k hk2 => ⟨(hk k hk2).1, (hk k hk2).2.1, by have := (hk k hk2).2.2; omega⟩⟩, fun k hk2 => hU.block k (hk k hk2).2.2 (h4 k hk2)⟩
  · rcases hk9 with h9 | h9
    · exact gr_self hs (h2 k h9)
    · exact .inr ⟨by omega, h9.2⟩
  · rcases h9 with h9 | h9
    · exact h3 k hk9 h9
    · have := (ho.lt k hk9).2; omega
  · rcases h9 with h9 | h9
    · exact h4 k hk9 h9
    · have := (hk k hk9).2.2; omega
theorem TM.out {T K : Nat → Prop} {w wr w' : World} {p now : Nat} {L : List Tm} {ov : Value} {out out' : List Tm} {g n c : Nat} (h : TM T K w wr p now L ov out) (ho : Owns timR w.heap.size w' (.slice (some ⟨g, 0, none⟩) n c) out') (hg : wr.grownBy w' ov.ownBlock) (hat : ov.ownBlock = some g ∨ g = wr.heap.size) :
    TM T K w w' p now L (.slice (some ⟨g, 0, none⟩) n c) out' ∧ Keeps K wr w' := by
  obtain ⟨hu, ⟨T', h1, h2, h3, h4⟩, hoo, hk⟩ := h
  have hU := upd_grown hg
  have hs := hg.size
  have hgb : ∀ k, (Value.slice (some (⟨g, 0, none⟩ : Addr)) n c).ownBlock = some k → k = g := fun k hk9 => by simp [Value.ownBlock] at hk9; exact hk9.symm
  refine ⟨⟨hu.trans (UpdP.of hU (fun k hk9 => .inl (.inr (hoo.lt k (by simpa using hk9))))), ⟨T', h1.upd hU (fun k hk9 => h3 k (by simpa using hk9)), fun k hk9 => gr_self hs (h2 k hk9), fun k hk9 h9 => ?_, h4⟩, ho, fun k hk2 => ⟨fun e => ?_, (hk k hk2).2.1, by have := (hk k hk2).2.2; omega⟩⟩, fun k hk2 => hU.block k (hk k hk2).2.2 (fun hin => (hk k hk2).1 (by simpa using hin))⟩
  · have := hgb k hk9
    subst this
    rcases hat with h10 | h10
    · exact h3 k h10 h9
    · have := h1.lt k h9; omega
  · have e2 := hgb k e
    subst e2
    rcases hat with h10 | h10
    · exact (hk k hk2).1 h10
    · have := (hk k hk2).2.2; omega
end Go.Proofs.Ytkbjlpdmmbldpaa
