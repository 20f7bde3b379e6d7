/- A wheel goes on to a tick (printed by genwhmove.py). -/
import Derived.Test.YtkbjlpdmmbldpaaWhNext2
set_option linter.unusedVariables false
set_option linter.unusedSimpArgs false
set_option maxRecDepth 100000
namespace Go.Proofs.Ytkbjlpdmmbldpaa
open Go.RowKit

/-- The rows that are laid anew when a wheel goes on to a tick: of so many levels. -/
def Anew (now2 l s : Nat) : Prop := s = 80 ∨ ∃ j, j < l ∧ s = 16 * j + dig now2 j
/-- .. what has been gathered out of them; the rows then. -/
structure Gat (now2 l : Nat) (R : Nat → List Int) (A : List Int) (R' : Nat → List Int) : Prop where
  nod : A.Nodup
  mem : ∀ i, i ∈ A ↔ ∃ s, s < 96 ∧ Anew now2 l s ∧ i ∈ R s
  off : ∀ s, s < 96 → Anew now2 l s → R' s = []
  on : ∀ s, s < 96 → ¬ Anew now2 l s → R' s = R s
theorem rows_one {now : Nat} {L : List Tm} {R : Nat → List Int} (h : RowsOk now L R) (hn : (idsT L).Nodup) {i : Int} {s s' : Nat} (hs : s < 96) (hs' : s' < 96) (h1 : i ∈ R s) (h2 : i ∈ R s') : s = s' := by
  obtain ⟨x, hx, rfl, e1⟩ := ((h s hs).2 i).1 h1
  obtain ⟨y, hy, e2, e3⟩ := ((h s' hs').2 x.id).1 h2
  have a := gotT_of hn hy
  rw [e2, gotT_of hn hx] at a
  rw [← e1, ← e3, Option.some.inj a]
theorem Gat.step {now now2 l : Nat} {L : List Tm} {R : Nat → List Int} {A : List Int} {R' : Nat → List Int} (hR : RowsOk now L R) (hn : (idsT L).Nodup) (h : Gat now2 l R A R') (hl : l < 4) :
    Gat now2 (l + 1) R (A ++ R' (16 * l + dig now2 l)) (updN R' (16 * l + dig now2 l) []) := by
  have hd := dig_lt now2 l
  have hs : 16 * l + dig now2 l < 96 := by omega
  have hnot : ¬ Anew now2 l (16 * l + dig now2 l) := fun h9 => by
    rcases h9 with h9 | ⟨j, hj, h9⟩
    · omega
    · have := dig_lt now2 j; omega
  have hon := h.on _ hs hnot
  have hA : ∀ s, Anew now2 (l + 1) s ↔ Anew now2 l s ∨ s = 16 * l + dig now2 l := fun s => by
    unfold Anew
    constructor
    · rintro (h9 | ⟨j, hj, h9⟩)
      · exact .inl (.inl h9)
      · by_cases e : j = l
        · subst e; exact .inr h9
        · exact .inl (.inr ⟨j, by omega, h9⟩)
    · rintro ((h9 | ⟨j, hj, h9⟩) | h9)
      · exact .inl h9
      · exact .inr ⟨j, by omega, h9⟩
      · exact .inr ⟨l, by omega, h9⟩
  refine ⟨?_, fun i => ?_, fun s hs2 ha => ?_, fun s hs2 ha => ?_⟩
  · rw [hon, List.nodup_append]
    refine ⟨h.nod, (hR _ hs).1, fun a ha b hb e => ?_⟩
    subst e
    obtain ⟨s, hs2, h9, h10⟩ := (h.mem a).1 ha
    have := rows_one hR hn hs2 hs h10 hb
    subst this
    exact hnot h9
  · rw [List.mem_append, h.mem, hon]
    constructor
    · rintro (⟨s, h9, h10, h11⟩ | h9)
      · exact ⟨s, h9, (hA s).2 (.inl h10), h11⟩
      · exact ⟨_, hs, (hA _).2 (.inr rfl), h9⟩
    · rintro ⟨s, h9, h10, h11⟩
      rcases (hA s).1 h10 with h12 | h12
      · exact .inl ⟨s, h9, h12, h11⟩
      · subst h12; exact .inr h11
  · by_cases e : s = 16 * l + dig now2 l
    · rw [e, updN_same]
    · rw [updN_other _ _ e]
      rcases (hA s).1 ha with h9 | h9
      · exact h.off s hs2 h9
      · exact absurd h9 e
  · have e : s ≠ 16 * l + dig now2 l := fun h9 => ha ((hA s).2 (.inr h9))
    rw [updN_other _ _ e]
    exact h.on s hs2 (fun h9 => ha ((hA s).2 (.inl h9)))
theorem Gat.start {now now2 : Nat} {L : List Tm} {R : Nat → List Int} (hR : RowsOk now L R) : Gat now2 0 R (R 80) (updN R 80 []) := by
  have hA : ∀ s, Anew now2 0 s ↔ s = 80 := fun s => ⟨fun h => by rcases h with h | ⟨j, hj, -⟩; exact h; omega, fun h => .inl h⟩
  refine ⟨(hR 80 (by decide)).1, fun i => ⟨fun h => ⟨80, by decide, .inl rfl, h⟩, ?_⟩, fun s _ ha => ?_, fun s _ ha => ?_⟩
  · rintro ⟨s, -, h1, h2⟩
    rw [(hA s).1 h1] at h2
    exact h2
  · rw [(hA s).1 ha, updN_same]
  · rw [updN_other _ _ (fun h => ha ((hA s).2 h))]
def laidR (now2 : Nat) (τ : Int → Nat) (R' : Nat → List Int) (B : List Int) (s : Nat) : List Int := R' s ++ B.filter fun i => decide (spotN now2 (τ i) = s)
def laidS (now2 : Nat) (τ : Int → Nat) (S : Int → Option Value) (B : List Int) (i : Int) : Option Value := if i ∈ B then some (spotV (spotN now2 (τ i))) else S i
theorem laidR_snoc (now2 : Nat) (τ : Int → Nat) (R' : Nat → List Int) (B : List Int) (i : Int) : updN (laidR now2 τ R' B) (spotN now2 (τ i)) (laidR now2 τ R' B (spotN now2 (τ i)) ++ [i]) = laidR now2 τ R' (B ++ [i]) := by
  funext s
  unfold laidR
  rw [List.filter_append]
  by_cases e : s = spotN now2 (τ i)
  · subst e
    rw [updN_same, List.filter_cons_of_pos (by simp)]
    simp
  · rw [updN_other _ _ e, List.filter_cons_of_neg (by simpa using fun h => e h.symm)]
    simp
theorem laidS_snoc (now2 : Nat) (τ : Int → Nat) (S : Int → Option Value) (B : List Int) (i : Int) : (fun j => if j = i then some (spotV (spotN now2 (τ i))) else laidS now2 τ S B j) = laidS now2 τ S (B ++ [i]) := by
  funext j
  unfold laidS
  by_cases e : j = i
  · subst e; simp
  · rw [if_neg e]
    by_cases h : j ∈ B
    · rw [if_pos h, if_pos (List.mem_append_left _ h)]
    · rw [if_neg h, if_neg (by simp [h, e])]
theorem moved_rows {now now2 : Nat} {L : List Tm} {R : Nat → List Int} {A : List Int} {R' : Nat → List Int} (hR : RowsOk now L R) (hn : (idsT L).Nodup) (h : Gat now2 4 R A R') (h1 : now < now2) (h2 : ∀ x ∈ L, now2 ≤ x.t) :
    RowsOk now2 L (laidR now2 (tauT L) R' A) ∧ laidS now2 (tauT L) (spM now L) A = spM now2 L := by
  have key : ∀ x ∈ L, x.id ∉ A → spotN now2 x.t = spotN now x.t := fun x hx hno => by
    have hxr : x.id ∈ R (spotN now x.t) := ((hR _ (spotN_lt now x.t)).2 x.id).2 ⟨x, hx, rfl, rfl⟩
    have hna : ¬ Anew now2 4 (spotN now x.t) := fun h9 => hno ((h.mem _).2 ⟨_, spotN_lt now x.t, h9, hxr⟩)
    exact spotN_stay h1 (h2 x hx) (fun h9 => hna (.inl h9)) (fun l hl h9 => hna (.inr ⟨l, hl, h9⟩))
  have inA : ∀ i ∈ A, ∃ x ∈ L, x.id = i := fun i hi => by
    obtain ⟨s, hs, -, h9⟩ := (h.mem i).1 hi
    obtain ⟨x, hx, e, -⟩ := ((hR s hs).2 i).1 h9
    exact ⟨x, hx, e⟩
  refine ⟨fun s hs => ⟨?_, fun i => ?_⟩, ?_⟩
  · unfold laidR
    rw [List.nodup_append]
    refine ⟨?_, h.nod.filter _, fun a ha b hb e => ?_⟩
    · by_cases hna : Anew now2 4 s
      · rw [h.off s hs hna]; exact List.nodup_nil
      · rw [h.on s hs hna]; exact (hR s hs).1
    · subst e
      have hbA := (List.mem_filter.1 hb).1
      obtain ⟨s', hs', h9, h10⟩ := (h.mem a).1 hbA
      by_cases hna : Anew now2 4 s
      · rw [h.off s hs hna] at ha; cases ha
      · rw [h.on s hs hna] at ha
        have := rows_one hR hn hs hs' ha h10
        subst this
        exact hna h9
  · unfold laidR
    rw [List.mem_append]
    constructor
    · rintro (h9 | h9)
      · by_cases hna : Anew now2 4 s
        · rw [h.off s hs hna] at h9; cases h9
        · rw [h.on s hs hna] at h9
          obtain ⟨x, hx, rfl, e⟩ := ((hR s hs).2 i).1 h9
          refine ⟨x, hx, rfl, ?_⟩
          rw [key x hx (fun h10 => by
            obtain ⟨s', hs', h11, h12⟩ := (h.mem _).1 h10
            have := rows_one hR hn hs hs' h9 h12
            subst this
            exact hna h11), e]
      · obtain ⟨h10, h11⟩ := List.mem_filter.1 h9
        obtain ⟨x, hx, rfl⟩ := inA i h10
        refine ⟨x, hx, rfl, ?_⟩
        have := of_decide_eq_true h11
        rwa [tau_of hn hx] at this
    · rintro ⟨x, hx, rfl, e⟩
      by_cases hxa : x.id ∈ A
      · exact .inr (List.mem_filter.2 ⟨hxa, decide_eq_true (by rw [tau_of hn hx]; exact e)⟩)
      · have e2 := key x hx hxa
        rw [e] at e2
        have hxr : x.id ∈ R s := ((hR s hs).2 x.id).2 ⟨x, hx, rfl, e2.symm⟩
        have hna : ¬ Anew now2 4 s := fun h9 => hxa ((h.mem _).2 ⟨s, hs, h9, hxr⟩)
        rw [h.on s hs hna]
        exact .inl hxr
  · funext i
    unfold laidS
    by_cases hi : i ∈ A
    · obtain ⟨x, hx, rfl⟩ := inA i hi
      rw [if_pos hi]
      unfold spM
      rw [gotT_of hn hx, tau_of hn hx]
      rfl
    · rw [if_neg hi]
      unfold spM
      cases hg : gotT L i with
      | none => rfl
      | some x =>
        obtain ⟨hx, rfl⟩ := gotT_mem hg
        show some (spotV (spotN now x.t)) = some (spotV (spotN now2 x.t))
        rw [key x hx hi]
/-- While it is gathered: the memory, and a list of one's own beside it. -/
structure GatM (T : Nat → Prop) (w wr : World) (p now2 m sm n : Nat) (M S : Int → Option Value) (R' : Nat → List Int) (av : Value) (A : List Int) : Prop where
  upd : UpdP T w wr
  mem : ∃ rv, WMem (Gr T w wr) wr p now2 m sm n rv M S R' ∧ ∀ k, av.ownBlock = some k → Gr T w wr k ∧ k ≠ p ∧ k ≠ m ∧ k ≠ sm ∧ ∀ s, s < 96 → (rv s).ownBlock ≠ some k
  own : Owns intR 0 wr av A
theorem gr_self {T : Nat → Prop} {w wr w' : World} {k : Nat} (hs : wr.heap.size ≤ w'.heap.size) (h : Gr T w wr k) : Gr T w w' k := by
  rcases h with h | h
  · exact .inl h
  · exact .inr ⟨h.1, by omega⟩
theorem GatM.below {T : Nat → Prop} {w wr w' : World} {p now2 m sm n : Nat} {M S : Int → Option Value} {R' : Nat → List Int} {av : Value} {A : List Int} (h : GatM T w wr p now2 m sm n M S R' av A) (hb : Below wr.heap.size wr w') : GatM T w w' p now2 m sm n M S R' av A := by
  obtain ⟨hu, ⟨rv, hm, ha⟩, ho⟩ := h
  have hs := hb.size
  refine ⟨wt_gr hu (UpdP.ofB hb), ⟨rv, (hm.below hb).wider (fun k hk => gr_self hs hk) (fun k hk => ?_), fun k hk => ⟨gr_self hs (ha k hk).1, (ha k hk).2⟩⟩, ho.below hb⟩
  rcases hk with h9 | h9
  · have := hm.lt k (.inl h9); omega
  · exact h9.2
/-- A row is added to what is gathered. -/
theorem GatM.add {T : Nat → Prop} {w wr w1 : World} {p now2 m sm n : Nat} {M S : Int → Option Value} {R' : Nat → List Int} {av u : Value} {A : List Int} {s : Nat} (h : GatM T w wr p now2 m sm n M S R' av A) (hs : s < 96)
    (ho : Owns intR 0 w1 u (A ++ R' s)) (hg : wr.grownBy w1 av.ownBlock) (hu : u.ownBlock = av.ownBlock ∨ u.ownBlock = some wr.heap.size) :
    GatM T w (w1.setCell ⟨p, 3 + s, none⟩ (.slice none 0 0)) p now2 m sm n M S (updN R' s []) u (A ++ R' s) := by
  obtain ⟨hup, ⟨rv, hm, ha⟩, hao⟩ := h
  have hU := upd_grown hg
  have hsz := hg.size
  have hm1 : WMem (fun k => Gr T w wr k ∧ av.ownBlock ≠ some k) wr p now2 m sm n rv M S R' := hm.less (fun k hk => hk.1) ⟨⟨hm.tT.1, fun e => (ha p e).2.1 rfl⟩, ⟨hm.tT.2.1, fun e => (ha m e).2.2.1 rfl⟩, ⟨hm.tT.2.2, fun e => (ha sm e).2.2.2.1 rfl⟩⟩ (fun s' hs' k hk => ⟨(hm.own s' hs' k hk).1, fun e => (ha k e).2.2.2.2 s' hs' hk⟩)
  have hm2 := hm1.upd hU (fun k hk h9 => h9.2 (by simpa using hk))
  have hm3 := hm2.setRow (F := []) hs (Upd.refl [] w1) (by simp) (Owns.nil intR 0 w1) (fun k hk => by simp [Value.ownBlock] at hk)
  have hS : Upd [p] w1 (w1.setCell ⟨p, 3 + s, none⟩ (.slice none 0 0)) := (Upd.refl _ _).setCell (by simp) _
  have hs3 := hS.size
  have hs4 : (w1.setCell ⟨p, 3 + s, none⟩ (.slice none 0 0)).heap.size ≤ w1.heap.size := by simp [World.setCell]
  have hub : ∀ k, u.ownBlock = some k → (av.ownBlock = some k ∨ k = wr.heap.size) ∧ k < w1.heap.size := fun k hk => ⟨by
    rcases hu with h9 | h9
    · rw [h9] at hk; exact .inl hk
    · rw [h9] at hk; cases hk; exact .inr rfl, (ho.lt k hk).2⟩
  have hws := hup.size
  have hw0 : ∀ k, T k → k < w.heap.size ∨ k < wr.heap.size := fun k hk => .inr (hm.lt k (.inl hk))
  have hkk : ∀ k, u.ownBlock = some k → Gr T w (w1.setCell ⟨p, 3 + s, none⟩ (.slice none 0 0)) k ∧ k ≠ p ∧ k ≠ m ∧ k ≠ sm ∧ ∀ s', s' < 96 → (updN rv s (.slice none 0 0) s').ownBlock ≠ some k := fun k hk => by
    obtain ⟨h9, h10⟩ := hub k hk
    have hrow : (∀ s', s' < 96 → (rv s').ownBlock ≠ some k) → ∀ s', s' < 96 → (updN rv s (.slice none 0 0) s').ownBlock ≠ some k := fun h11 s' hs' => by
      by_cases e : s' = s
      · rw [e, updN_same]; simp [Value.ownBlock]
      · rw [updN_other _ _ e]; exact h11 s' hs'
    rcases h9 with h9 | h9
    · obtain ⟨a1, a2, a3, a4, a5⟩ := ha k h9
      exact ⟨gr_self (by omega) a1, a2, a3, a4, hrow a5⟩
    · have l1 := hm.lt p hm.tT.1
      have l2 := hm.lt m hm.tT.2.1
      have l3 := hm.lt sm hm.tT.2.2
      exact ⟨.inr ⟨by omega, by omega⟩, by omega, by omega, by omega, hrow (fun s' hs' e => by have := hm.lt k (hm.own s' hs' k e).1; omega)⟩
  refine ⟨(hup.trans (UpdP.of hU (fun k hk => .inl (ha k (by simpa using hk)).1))).trans (UpdP.of hS (fun k hk => by simp at hk; subst hk; exact .inl (gr_self hsz hm.tT.1))), ⟨_, hm3.wider (fun k hk => ?_) (fun k hk => ?_), hkk⟩, ho.upd hS (fun k hk => by simpa using (hkk k hk).2.1)⟩
  · rcases hk with h9 | h9
    · exact gr_self (by omega) h9.1
    · omega
  · rcases hk with h9 | h9
    · have := hm.lt k (.inl h9); omega
    · exact h9.2
def MoveP (T : Nat → Prop) (w : World) (p now2 : Nat) (L : List Tm) (e : Ending) (w' : World) : Prop := e = .returned (.tuple #[]) ∧ UpdP T w w' ∧ WT (Gr T w w') w' p now2 L
/-- While it is laid anew. -/
def LayM (T : Nat → Prop) (w wr : World) (p now2 m sm n : Nat) (M : Int → Option Value) (τ : Int → Nat) (S : Int → Option Value) (R' : Nat → List Int) (av : Value) (A : List Int) (k : Nat) : Prop :=
  UpdP T w wr ∧ Owns intR 0 wr av A ∧ ∃ (T2 : Nat → Prop) (rv : Nat → Value), WMem T2 wr p now2 m sm n rv M (laidS now2 τ S (A.take k)) (laidR now2 τ R' (A.take k)) ∧ (∀ k, T2 k → Gr T w wr k) ∧ ∀ k, av.ownBlock = some k → ¬ T2 k
theorem LayM.start {T : Nat → Prop} {w wr : World} {p now2 m sm n : Nat} {M S : Int → Option Value} {τ : Int → Nat} {R' : Nat → List Int} {av : Value} {A : List Int} (h : GatM T w wr p now2 m sm n M S R' av A) : LayM T w wr p now2 m sm n M τ S R' av A 0 := by
  obtain ⟨hup, ⟨rv, hm, ha⟩, hao⟩ := h
  have hm1 : WMem (fun k => Gr T w wr k ∧ av.ownBlock ≠ some k) wr p now2 m sm n rv M S R' := hm.less (fun k hk => hk.1) ⟨⟨hm.tT.1, fun e => (ha p e).2.1 rfl⟩, ⟨hm.tT.2.1, fun e => (ha m e).2.2.1 rfl⟩, ⟨hm.tT.2.2, fun e => (ha sm e).2.2.2.1 rfl⟩⟩ (fun s' hs' k hk => ⟨(hm.own s' hs' k hk).1, fun e => (ha k e).2.2.2.2 s' hs' hk⟩)
  refine ⟨hup, hao, (fun k => Gr T w wr k ∧ av.ownBlock ≠ some k), rv, ?_, fun k hk => hk.1, fun k hk h9 => h9.2 hk⟩
  have e1 : laidS now2 τ S (A.take 0) = S := by funext i; simp [laidS]
  have e2 : laidR now2 τ R' (A.take 0) = R' := by funext s; simp [laidR]
  rw [e1, e2]
  exact hm1
theorem LayM.step {T : Nat → Prop} {w wr w' : World} {p now2 m sm n : Nat} {M S : Int → Option Value} {τ : Int → Nat} {R' : Nat → List Int} {av : Value} {A : List Int} {k : Nat} {i : Int} {T2 : Nat → Prop} {rv : Nat → Value}
    (hup : UpdP T w wr) (hao : Owns intR 0 wr av A) (hT2 : ∀ k, T2 k → Gr T w wr k) (hav : ∀ k, av.ownBlock = some k → ¬ T2 k) (hi : A[k]? = some i)
    (hu : UpdP T2 wr w') (hm : WMem (Gr T2 wr w') w' p now2 m sm n rv M (fun j => if j = i then some (spotV (spotN now2 (τ i))) else laidS now2 τ S (A.take k) j) (updN (laidR now2 τ R' (A.take k)) (spotN now2 (τ i)) (laidR now2 τ R' (A.take k) (spotN now2 (τ i)) ++ [i]))) :
    LayM T w w' p now2 m sm n M τ S R' av A (k + 1) := by
  have hs := hu.size
  have hw := hup.size
  rw [laidR_snoc, laidS_snoc, take_snoc hi] at hm
  have hF : Upd ((List.range wr.heap.size).filter fun x => @decide (T2 x) (Classical.propDecidable _)) wr w' := ⟨hu.os, hu.tape, hu.output, hu.size, fun x hx hn => hu.block x hx (fun hp => hn (List.mem_filter.2 ⟨List.mem_range.2 hx, @decide_eq_true _ (Classical.propDecidable _) hp⟩))⟩
  refine ⟨hup.trans ⟨hu.os, hu.tape, hu.output, hu.size, fun x hx hn => hu.block x hx (fun h9 => hn (hT2 x h9))⟩, hao.upd hF (fun x hx hin => hav x hx (@of_decide_eq_true _ (Classical.propDecidable _) (List.mem_filter.1 hin).2)), _, rv, hm, fun x hx => ?_, fun x hx h9 => ?_⟩
  · rcases hx with h9 | h9
    · exact gr_self hs (hT2 x h9)
    · exact .inr ⟨by omega, h9.2⟩
  · rcases h9 with h9 | h9
    · exact hav x hx h9
    · have := (hao.lt x hx).2; omega
theorem GatM.start {T : Nat → Prop} {w w1 : World} {p now2 m sm n : Nat} {rv : Nat → Value} {M S : Int → Option Value} {R : Nat → List Int} (h : WMem T w1 p now2 m sm n rv M S R) (hu : UpdP T w w1) (hlt : ∀ k, T k → k < w.heap.size) :
    GatM T w (w1.setCell ⟨p, 3 + 80, none⟩ (.slice none 0 0)) p now2 m sm n M S (updN R 80 []) (rv 80) (R 80) := by
  have hm3 := h.setRow (F := []) (s := 80) (by decide) (Upd.refl [] w1) (by simp) (Owns.nil intR 0 w1) (fun k hk => by simp [Value.ownBlock] at hk)
  have hS : Upd [p] w1 (w1.setCell ⟨p, 3 + 80, none⟩ (.slice none 0 0)) := (Upd.refl _ _).setCell (by simp) _
  have hs := hS.size
  refine ⟨hu.trans (UpdP.of hS (fun k hk => by simp at hk; subst hk; exact .inl (.inl h.tT.1))), ⟨_, hm3.wider (fun k hk => ?_) (fun k hk => ?_), fun k hk => ?_⟩, (h.each 80 (by decide)).upd hS (fun k hk => by simpa using (h.own 80 (by decide) k hk).2.1)⟩
  · rcases hk with h9 | h9
    · exact .inl h9
    · omega
  · rcases hk with h9 | h9
    · have := h.lt k h9; omega
    · exact h9.2
  · obtain ⟨a1, a2, a3, a4⟩ := h.own 80 (by decide) k hk
    refine ⟨.inl a1, a2, a3, a4, fun s hs' => ?_⟩
    by_cases e : s = 80
    · rw [e, updN_same]; simp [Value.ownBlock]
    · rw [updN_other _ _ e]; exact h.apart 80 s (by decide) hs' (fun h9 => e h9.symm) k hk
theorem Gat.len {now now2 l : Nat} {L : List Tm} {R : Nat → List Int} {A : List Int} {R' : Nat → List Int} (hR : RowsOk now L R) (h : Gat now2 l R A R') : A.length ≤ L.length := by
  have := nodup_len h.nod (B := idsT L) (fun i hi => by
    obtain ⟨s, hs, -, h9⟩ := (h.mem i).1 hi
    obtain ⟨x, hx, rfl, -⟩ := ((hR s hs).2 i).1 h9
    exact List.mem_map.2 ⟨x, hx, rfl⟩)
  simpa [idsT] using this
theorem Gat.rowLen {now now2 l : Nat} {L : List Tm} {R : Nat → List Int} {A : List Int} {R' : Nat → List Int} (hR : RowsOk now L R) (h : Gat now2 l R A R') {s : Nat} (hs : s < 96) : (R' s).length ≤ L.length := by
  by_cases ha : Anew now2 l s
  · rw [h.off s hs ha]; simp
  · rw [h.on s hs ha]; exact hR.len hs
theorem Gat.tau {now now2 l : Nat} {L : List Tm} {R : Nat → List Int} {A : List Int} {R' : Nat → List Int} (hR : RowsOk now L R) (hn : (idsT L).Nodup) (h : Gat now2 l R A R') {i : Int} (hi : i ∈ A) : ∃ x ∈ L, x.id = i ∧ tauT L i = x.t ∧ atM L i = some (.int .u64 ((tauT L i : Nat) : Int)) := by
  obtain ⟨s, hs, -, h9⟩ := (h.mem i).1 hi
  obtain ⟨x, hx, rfl, -⟩ := ((hR s hs).2 i).1 h9
  refine ⟨x, hx, rfl, tau_of hn hx, ?_⟩
  rw [tau_of hn hx]
  unfold atM
  rw [gotT_of hn hx]; rfl
theorem laid_len {now2 : Nat} {τ : Int → Nat} {R' : Nat → List Int} {B : List Int} {s N : Nat} (h1 : (R' s).length ≤ N) (h2 : B.length ≤ N) : (laidR now2 τ R' B s).length ≤ 2 * N := by
  unfold laidR
  rw [List.length_append]
  have := List.length_filter_le (fun i => decide (spotN now2 (τ i) = s)) B
  omega

set_option maxHeartbeats 8000000 in
theorem move_any {T : Nat → Prop} {w : World} {p now : Nat} {L : List Tm} (h : WT T w p now L) (now2 : Nat) (ht1 : now < now2) (ht2 : ∀ x ∈ L, now2 ≤ x.t) (hlt2 : now2 < 18446744073709551616) (hL : L.length ≤ 40000) :
    Calls Try.prog 40 #[.pointer (some ⟨p, 0, none⟩), .int .u64 (now2 : Int)] w (MoveP T w p now2 L) := by
  have hTlt := h.lt
  obtain ⟨h1, h2, h3, m, sm, rv, R, h4, h5⟩ := h
  have HM := Lib.hid h4
  have HR := Lib.hid h5
  have c0 := h4.c0
  have f0 := h4.f0
  have HD := Lib.hid (fun (W : World) (l : Nat) (hl : l < 4) => digit_any W now2 l hlt2 hl)
  have hm1 := h4.setNow now2
  have hu1 : UpdP T w (w.setCell ⟨p, 0, none⟩ (.int .u64 (now2 : Int))) := UpdP.of ((Upd.refl [p] w).setCell (by simp) _) (fun k hk => by simp at hk; subst hk; exact .inl h4.tT.1)
  clear h4 h5
  go_enter Try.func40, Try.ntmps40
  go_upto_region 1 with fail
  generalize w.setCell ⟨p, 0, none⟩ (.int .u64 (now2 : Int)) = W1 at hm1 hu1 ⊢
  clear c0 f0
  obtain ⟨a80, c80, e80⟩ := (hm1.each 80 (by decide)).form
  have cr := hm1.row (s := 80) (by decide)
  rw [e80] at cr
  have cr83 : W1.cell? ⟨p, 83, none⟩ = some (.slice a80 (R 80).length c80) := cr
  have fr83 : W1.frozen? ⟨p, 83, none⟩ = false := hm1.rowFree (s := 80) (by decide)
  have hg := GatM.start hm1 hu1 hTlt
  rw [e80] at hg
  have HG := Lib.hid hg
  clear cr hg hm1 hu1 e80
  go_upto_block 0 with fail
  clear cr83 fr83
  have HG0 := Lib.hid (Gat.start (now2 := now2) HR.out)
  generalize W1.setCell ⟨p, 83, none⟩ (.slice none 0 0) = W2 at HG ⊢
  go_wp2_with fail
  go_loopw [4, 24] (fun a4 i wr => ∃ (av : Value) (l : Nat) (A : List Int) (R' : Nat → List Int), a4 = av ∧ l ≤ 4 ∧ i = .int .i64 l ∧ GatM T w wr p now2 m sm L.length (atM L) (spM now L) R' av A ∧ Hid (Gat now2 l R A R')) (fun _ i _ => 4 - (intOf i).toNat)
  case atStart => exact ⟨_, 0, R 80, updN R 80 [], rfl, by omega, rfl, HG.out, HG0⟩
  case round =>
    clear HG HG0
    obtain ⟨av, l, A, R', hav, hl, rfl, hGM, HGA⟩ := hrel
    have hav' := hav.symm
    clear hav
    subst hav'
    have HG := Lib.hid hGM
    have hAl := HGA.out.len HR.out
    clear hGM
    by_cases hl4 : l < 4
    · have hd := dig_lt now2 l
      have hs96 : 16 * l + dig now2 l < 96 := by omega
      have hRl := HGA.out.rowLen HR.out hs96
      go_upto_region 6 with fail
      have hneS : Nonempty (Mix.InS (fun z => Below wr.heap.size wr z)) := ⟨⟨wr, Below.refl _ _⟩⟩
      try simp only [Act.put]
      refine Mix.wp_region_mix [([0, 1, 2, 3, 5, 6, 7], 4)] [8, 9] (fun w' => ∃ x : Mix.InS (fun z => Below wr.heap.size wr z), w' = x.w) (by kernel_rfl) (by kernel_rfl) (Mix.inS_mk (Below.refl _ _).drew) ?_
      have hbd : Below wr.heap.size wr wr.drew := (Below.refl _ _).drew
      generalize wr.drew = W4 at hbd ⊢
      refine Mix.stages_cons ?_
      simp only [Mix.pickL, List.getElem?_cons_zero, List.getElem?_cons_succ]
      repeat (first
        | go_big_quiet_skip
        | (go_big_quiet_want; (go_big_quiet_op; go_big_quiet_on)))
      refine wpQuiet_nil ?_
      go_wp2_with (go_at_call 61; refine (HD.out W4 l hl4).mono ?_; rintro e w' ⟨rfl, rfl⟩)
      refine Mix.onward_in hbd ?_
      refine Mix.stages_nil ?_
      simp only [Mix.pickL, List.getElem?_cons_zero, List.getElem?_cons_succ]
      repeat (first
        | go_big_quiet_skip
        | (go_big_quiet_want; (go_big_quiet_op; go_big_quiet_on)))
      refine wpQuiet_nil ?_
      clear hneS
      have HG4 := Lib.hid (HG.out.below hbd)
      clear hbd HG
      obtain ⟨rv4, hm4, hav4⟩ := HG4.out.mem
      obtain ⟨ar, cr, er⟩ := (hm4.each _ hs96).form
      have cro := hm4.row hs96
      rw [er] at cro
      have crc : W4.cell? ⟨p, 3 + l * 16 + dig now2 l, none⟩ = some (.slice ar (R' (16 * l + dig now2 l)).length cr) := by rw [show 3 + l * 16 + dig now2 l = 3 + (16 * l + dig now2 l) from by omega]; exact cro
      have frc : W4.frozen? ⟨p, 3 + l * 16 + dig now2 l, none⟩ = false := by rw [show 3 + l * 16 + dig now2 l = 3 + (16 * l + dig now2 l) from by omega]; exact hm4.rowFree hs96
      have hreads := (hm4.each _ hs96).lts intOk
      rw [er] at hreads
      have HRD := Lib.hid hreads
      have HNP := Lib.hid (show av.ownBlock ≠ some p from fun e => (hav4 p e).2.1 rfl)
      have HCF := Lib.hid (show W4.cell? ⟨p, 3 + l * 16 + dig now2 l, none⟩ = some (.slice ar (R' (16 * l + dig now2 l)).length cr) ∧ W4.frozen? ⟨p, 3 + l * 16 + dig now2 l, none⟩ = false from ⟨crc, frc⟩)
      clear cro frc hreads er hm4 hav4
      go_wp2_with (refine wl_append_all intOk rfl _ _ rfl rfl 0 av _ A (R' (16 * l + dig now2 l)) rfl rfl HG4.out.own HRD.out (by omega) (Nat.zero_le _) ?_; intro u W7 hO7 hg7 hu7; have HO7 := Lib.hid hO7; have HG7 := Lib.hid hg7; have HU7 := Lib.hid hu7; clear hO7 hg7 hu7; obtain ⟨c7, f7⟩ := grown_cell HG7.out HNP.out HCF.out.1 HCF.out.2)
      have hadd := HG4.out.add hs96 HO7.out HG7.out HU7.out
      rw [show 3 + (16 * l + dig now2 l) = 3 + l * 16 + dig now2 l from by omega] at hadd
      have HADD := Lib.hid hadd
      have HGS := Lib.hid (HGA.out.step HR.out h3 hl4)
      clear hadd
      go_roundw
      case rel => exact ⟨_, l + 1, _, _, rfl, by omega, by go_num, HADD.out, HGS⟩
      case measure => simp [intOf]; omega
    · have hga4 := HGA.out
      rw [show l = 4 by omega] at hga4
      replace HGA := Lib.hid hga4
      clear hga4
      have HLM := Lib.hid (LayM.start (τ := tauT L) HG.out)
      obtain ⟨aA, cA, eA⟩ := HG.out.own.form
      rw [eA] at HLM
      subst eA
      clear HG
      go_upto_block 2 with fail
      go_wp2_with fail
      go_loopw [46] (fun i wr => ∃ k : Nat, k ≤ A.length ∧ i = .int .i64 k ∧ LayM T w wr p now2 m sm L.length (atM L) (tauT L) (spM now L) R' (.slice aA A.length cA) A k) (fun i _ => A.length - (intOf i).toNat)
      case atStart => exact ⟨0, by omega, rfl, HLM.out⟩
      case round =>
        clear HLM
        obtain ⟨k, hk, rfl, hLM⟩ := hrel
        have HLM := Lib.hid hLM
        clear hLM
        by_cases hlt : k < A.length
        · obtain ⟨i, hi⟩ : ∃ i, A[k]? = some i := ⟨_, List.getElem?_eq_getElem hlt⟩
          obtain ⟨hup, hao, T2, rv2, hm2, hT2, hav2⟩ := HLM.out
          obtain ⟨b, off, rfl, hr⟩ := (hao.lts intOk).at hi
          have kx := int_cell hr
          obtain ⟨x, hx, hxi, htx, hax⟩ := HGA.out.tau HR.out h3 (List.mem_of_getElem? hi)
          have KL := Lib.hid (lay_any hm2 i (tauT L i) hax (by rw [htx]; exact h2 x hx) hlt2 (fun s hs => by
            have := laid_len (now2 := now2) (τ := tauT L) (R' := R') (B := A.take k) (s := s) (N := 40000) (by have := HGA.out.rowLen HR.out hs; omega) (by rw [List.length_take]; omega)
            omega))
          have HI := Lib.hid hi
          have HUP := Lib.hid hup
          have HAO := Lib.hid hao
          have HT2 := Lib.hid hT2
          have HAV := Lib.hid hav2
          clear hi hup hao hm2 hT2 hav2 hr hx hxi htx hax
          go_wp2_with (go_at_call 46; refine KL.out.mono ?_; rintro e W8 ⟨rfl, hu8, rv8, hm8⟩; have HU8 := Lib.hid hu8; have HM8 := Lib.hid hm8; clear hu8 hm8)
          have HS := Lib.hid (LayM.step HUP.out HAO.out HT2.out HAV.out HI.out HU8.out HM8.out)
          go_roundw
          case rel => exact ⟨k + 1, by omega, by go_num, HS.out⟩
          case measure => simp [intOf]; omega
        · obtain rfl : k = A.length := by omega
          go_wp2_with fail
          go_end0
          obtain ⟨hup, hao, T2, rv2, hm2, hT2, hav2⟩ := HLM.out
          obtain ⟨r1, r2⟩ := moved_rows HR.out h3 HGA.out ht1 ht2
          rw [List.take_length, r2] at hm2
          have hsz := hup.size
          exact ⟨rfl, hup, hlt2, h2, h3, m, sm, rv2, _, hm2.wider hT2 (fun k hk => by
            rcases hk with h9 | h9
            · have := hTlt k h9; omega
            · exact h9.2), r1⟩
end Go.Proofs.Ytkbjlpdmmbldpaa
