/- Push. -/
import Derived.Test.YtegkjbndnonneaaFifoQ
import Derived.Deep.CutRange
import Derived.Deep.DeepCutAuto
import Derived.Deep.CutBlock
set_option linter.unusedVariables false
namespace Go.Proofs.Ytegkjbndnonneaa
open Go.RowKit

/-- A queue half-way through a call. -/
structure Mid (F : List Nat) (w0 w : World) (p m : Nat) (G : List Lk) (f l : Value) (c : Int) (A E : Nat → Value) (t : Int → Option Value) (n : Nat) : Prop where
  box : Four w p f l (.map (some m)) (.int .i64 c)
  ch : Ch w G A E
  map : MapF (intK 3) w m t n
  hu : Upd F w0 w
namespace Mid
variable {F : List Nat} {w0 w w' : World} {p m : Nat} {G : List Lk} {f l : Value} {c : Int} {A E : Nat → Value} {t : Int → Option Value} {n : Nat}
theorem below (h : Mid F w0 w p m G f l c A E t n) (hb : Below w.heap.size w w') : Mid F w0 w' p m G f l c A E t n :=
  ⟨h.box.below hb, h.ch.upd (Upd.ofBelow [] hb) (by simp), h.map.below hb, h.hu.trans (Upd.ofBelow _ hb)⟩
theorem outs (hn : (qF p m G).Nodup) : p ≠ m ∧ p ∉ blocks G ∧ m ∉ blocks G ∧ (blocks G).Nodup := by
  unfold qF at hn
  rw [List.nodup_cons, List.nodup_cons] at hn
  exact ⟨fun e => hn.1 (by simp [e]), fun e => hn.1 (by simp [e]), hn.2.1, hn.2.2⟩
theorem at1 (h : Mid F w0 w p m G f l c A E t n) (hn : (qF p m G).Nodup) (o : Nat) (v : Value) : Ch (w.setCell ⟨p, o, none⟩ v) G A E ∧ MapF (intK 3) (w.setCell ⟨p, o, none⟩ v) m t n := by
  obtain ⟨h1, h2, h3, h4⟩ := outs hn
  have hu : Upd [p] w (w.setCell ⟨p, o, none⟩ v) := (Upd.refl _ _).setCell (by simp) v
  exact ⟨h.ch.upd hu (fun g hg => by simp; intro e; exact h2 (e ▸ hg)), h.map.upd hu (by simp [Ne.symm h1])⟩
theorem first (h : Mid F w0 w p m G f l c A E t n) (hn : (qF p m G).Nodup) (hF : p ∈ F) (v : Value) : Mid F w0 (w.setCell ⟨p, 0, none⟩ v) p m G v l c A E t n :=
  ⟨h.box.set0 v, (h.at1 hn 0 v).1, (h.at1 hn 0 v).2, h.hu.setCell hF v⟩
theorem last (h : Mid F w0 w p m G f l c A E t n) (hn : (qF p m G).Nodup) (hF : p ∈ F) (v : Value) : Mid F w0 (w.setCell ⟨p, 1, none⟩ v) p m G f v c A E t n :=
  ⟨h.box.set1 v, (h.at1 hn 1 v).1, (h.at1 hn 1 v).2, h.hu.setCell hF v⟩
theorem cost (h : Mid F w0 w p m G f l c A E t n) (hn : (qF p m G).Nodup) (hF : p ∈ F) (v : Int) : Mid F w0 (w.setCell ⟨p, 3, none⟩ (.int .i64 v)) p m G f l v A E t n :=
  ⟨h.box.set3 _, (h.at1 hn 3 _).1, (h.at1 hn 3 _).2, h.hu.setCell hF _⟩
theorem ahead (h : Mid F w0 w p m G f l c A E t n) (hn : (qF p m G).Nodup) {k g : Nat} {x : It} (hk : G[k]? = some (g, x)) (hF : g ∈ F) (v : Value) :
    Mid F w0 (w.setCell ⟨g, 2, none⟩ v) p m G f l c (fun i => if i = k then v else A i) E t n := by
  obtain ⟨h1, h2, h3, h4⟩ := outs hn
  have hg := mem_blocks hk
  exact ⟨h.box.far (fun e => h2 (e ▸ hg)) v, h.ch.setA h4 hk v, h.map.upd ((Upd.refl [g] _).setCell (by simp) v) (by simp; intro e; exact h3 (e ▸ hg)), h.hu.setCell hF v⟩
theorem behind (h : Mid F w0 w p m G f l c A E t n) (hn : (qF p m G).Nodup) {k g : Nat} {x : It} (hk : G[k]? = some (g, x)) (hF : g ∈ F) (v : Value) :
    Mid F w0 (w.setCell ⟨g, 3, none⟩ v) p m G f l c A (fun i => if i = k then v else E i) t n := by
  obtain ⟨h1, h2, h3, h4⟩ := outs hn
  have hg := mem_blocks hk
  exact ⟨h.box.far (fun e => h2 (e ▸ hg)) v, h.ch.setB h4 hk v, h.map.upd ((Upd.refl [g] _).setCell (by simp) v) (by simp; intro e; exact h3 (e ▸ hg)), h.hu.setCell hF v⟩
theorem table (h : Mid F w0 w p m G f l c A E t n) (hn : (qF p m G).Nodup) (hF : m ∈ F) (hu : Upd [m] w w') {t' : Int → Option Value} {n' : Nat} (hM : MapF (intK 3) w' m t' n') : Mid F w0 w' p m G f l c A E t' n' := by
  obtain ⟨h1, h2, h3, h4⟩ := outs hn
  exact ⟨h.box.upd hu (by simp [h1]), h.ch.upd hu (fun g hg => by simp; intro e; exact h3 (e ▸ hg)), hM, h.hu.trans (hu.mono (by simp [hF]))⟩
end Mid

theorem push_none (w : World) (x : It) : Calls Try.prog 9 #[.pointer none, .agg (itR.cells x).toArray] w fun e w' => e = .returned (.int .i64 19) ∧ Below w.heap.size w w' := by
  go_enter Try.func9, Try.ntmps9
  go_wp2_with fail
  go_ret
  exact ⟨rfl, (Below.refl _ _).alloc (Nat.le_refl _) _⟩

theorem it_range (w : World) (x : It) (t : TypeId) : (w.alloc (.cells (itR.cells x).toArray t)).rangeAt w.heap.size 0 (itR.cells x) := fun j v hv => by
  rw [cell_of_row _ w.heap.size (0 + j) _ t (0, 0) (heap_alloc_new _ _)]
  simpa using hv
theorem two_cells {w : World} {b o : Nat} {x : It} (h : w.rangeAt b o (itR.cells x)) : w.cell? ⟨b, o, none⟩ = some (.int .i64 x.id) ∧ w.cell? ⟨b, o + 1, none⟩ = some (.int .i64 x.cost) :=
  ⟨by simpa using h 0 _ rfl, by simpa using h 1 _ rfl⟩

theorem push_bad (w : World) (p : Nat) (x : It) (hx : ¬ (1 ≤ x.id ∧ 1 ≤ x.cost ∧ x.cost ≤ 64)) :
    Calls Try.prog 9 #[.pointer (some ⟨p, 0, none⟩), .agg (itR.cells x).toArray] w fun e w' => e = .returned (.int .i64 1) ∧ Below w.heap.size w w' := by
  obtain ⟨n0, n1⟩ := two_cells (it_range w x 32)
  have hb : x.id < 1 ∨ (1 ≤ x.id ∧ x.cost < 1) ∨ (1 ≤ x.id ∧ 1 ≤ x.cost ∧ 64 < x.cost) := by omega
  clear hx
  rcases hb with a1 | ⟨a1, a2⟩ | ⟨a1, a2, a3⟩
  all_goals
    go_enter Try.func9, Try.ntmps9
    go_wp2_with fail
    go_ret
    exact ⟨rfl, (Below.refl _ _).alloc (Nat.le_refl _) _⟩
theorem push_there (w : World) (B p m : Nat) (G : List Lk) (h : Qu B w p m G) (i g : Nat) (y x : It) (hy : G[i]? = some (g, y)) (e : y.id = x.id) (hx : 1 ≤ x.id ∧ 1 ≤ x.cost ∧ x.cost ≤ 64) :
    Calls Try.prog 9 #[.pointer (some ⟨p, 0, none⟩), .agg (itR.cells x).toArray] w fun e w' => e = .returned (.int .i64 8) ∧ Below w.heap.size w w' := by
  obtain ⟨n0, n1⟩ := two_cells (it_range w x 32)
  have hb : Below w.heap.size w (w.alloc (.cells (itR.cells x).toArray 32)) := (Below.refl _ _).alloc (Nat.le_refl _) _
  have KH := Lib.hid (has_yes _ B p m G (h.below hb) i g y hy)
  rw [e] at KH
  obtain ⟨a1, a2, a3⟩ := hx
  clear h hy e
  go_enter Try.func9, Try.ntmps9
  go_wp2_with (go_at_call 20; refine KH.out.mono ?_; rintro e W2 ⟨rfl, rfl⟩)
  go_ret
  exact ⟨rfl, hb⟩

set_option maxRecDepth 100000 in
set_option maxHeartbeats 4000000 in
theorem push_yes (w : World) (B p m : Nat) (G : List Lk) (h : Qu B w p m G) (x : It) (hno : ∀ y ∈ its G, y.id ≠ x.id) (hx : 1 ≤ x.id ∧ 1 ≤ x.cost ∧ x.cost ≤ 64) (hB : B ≤ w.heap.size) (hbig : G.length ≤ 100000) :
    Calls Try.prog 9 #[.pointer (some ⟨p, 0, none⟩), .agg (itR.cells x).toArray] w fun e w' => e = .returned (.int .i64 0) ∧ ∃ g, w.heap.size ≤ g ∧ Upd (qF p m G) w w' ∧ Qu B w' p m (G ++ [(g, x)]) := by
  have hr : (w.alloc (.cells (itR.cells x).toArray 32)).rangeAt w.heap.size 0 [.int .i64 x.id, .int .i64 x.cost] := it_range w x 32
  obtain ⟨n0, n1⟩ := two_cells (it_range w x 32)
  have hb : Below w.heap.size w (w.alloc (.cells (itR.cells x).toArray 32)) := (Below.refl _ _).alloc (Nat.le_refl _) _
  have h1 := h.below hb
  have KH := Lib.hid (has_no _ B p m G h1 x.id hno)
  obtain ⟨o, hl⟩ : ∃ o, Value.pointer o = ptr G[G.length - 1]? := ⟨_, rfl⟩
  have HM1 : Mid (qF p m G) (w.alloc (.cells (itR.cells x).toArray 32)) (w.alloc (.cells (itR.cells x).toArray 32)) p m G (ptr G[0]?) (.pointer o) (costL (its G)) (pv G) (nx G) (mf G) G.length := ⟨by rw [hl]; exact h1.box, h1.ch, h1.map, Upd.refl _ _⟩
  have hgx := hx
  obtain ⟨a1, a2, a3⟩ := hx
  have hsz : (w.alloc (.cells (itR.cells x).toArray 32)).heap.size = w.heap.size + 1 := by simp
  have hlow := h.low
  have hnF : w.heap.size ∉ qF p m G := fun e => Nat.lt_irrefl _ (hlow _ e).2
  have hmw : w.heap.size ∉ [m] := by simp; intro e; exact hnF (by rw [e]; simp [qF])
  have hpF : p ∈ qF p m G := by simp [qF]
  have hmF : m ∈ qF p m G := by simp [qF]
  have hsum := h.good.sum
  rw [its_length] at hsum
  have hfr := Lib.hid (show (if (mf G x.id).isSome = true then G.length else G.length + 1) = G.length + 1 from by rw [mf_none hno]; rfl)
  have hcase : (G = [] ∧ o = none) ∨ ∃ k gl xl, G.length = k + 1 ∧ G[k]? = some (gl, xl) ∧ o = some ⟨gl, 0, none⟩ := by
    rcases Nat.eq_zero_or_pos G.length with h0 | h0
    · obtain rfl := List.eq_nil_of_length_eq_zero h0
      exact .inl ⟨rfl, by simpa [ptr] using hl⟩
    · obtain ⟨⟨gl, xl⟩, hk⟩ : ∃ q, G[G.length - 1]? = some q := ⟨_, List.getElem?_eq_getElem (by omega)⟩
      exact .inr ⟨G.length - 1, gl, xl, by omega, hk, by rw [hk] at hl; simpa [ptr] using hl⟩
  have hlp : ∀ g : Nat, Value.pointer o = pv (G ++ [(g, x)]) G.length := by
    intro g
    rcases hcase with ⟨rfl, rfl⟩ | ⟨k, gl, xl, h2, h3, rfl⟩
    · rfl
    · rw [h2]
      show _ = ptr (G ++ [(g, x)])[k]?
      rw [List.getElem?_append_left (by omega), h3]; rfl
  have hNB := h.nb
  have hids := h.ids
  have hgood := h.good
  have hno := Lib.hid hno
  have hcase := Lib.hid hcase
  clear h h1 hl
  go_enter Try.func9, Try.ntmps9
  go_wp2_with (go_at_call 20; refine KH.out.mono ?_; rintro e W2 ⟨rfl, rfl⟩)
  show Code.wp _ _ _ _ (w.alloc (.cells (itR.cells x).toArray 32))
  generalize hW1 : w.alloc (.cells (itR.cells x).toArray 32) = W1 at hr n0 n1 hb HM1 hsz ⊢
  clear hW1 KH
  have d1 := fun (z : Later W1) => z.cell HM1.box.c1
  have RX := Lib.hid (fun (w' : World) (hx : ∃ x : Later W1, w' = x.w) => (show w'.rangeAt w.heap.size 0 [.int .i64 x.id, .int .i64 x.cost] from by obtain ⟨z, rfl⟩ := hx; exact below_range z.h hr))
  have HM1 := Lib.hid HM1
  refine wp_region_later_tail 6 (by kernel_rfl) (by kernel_rfl) (Below.refl _ _) ?_
  simp only [List.take_succ_cons, List.take_zero, List.drop_succ_cons, List.drop_zero]
  repeat (first
    | go_big_quiet_skip
    | (go_big_quiet_want; first
      | (refine quiet_load_mid 32 _ rfl w.heap.size 0 rfl [.int .i64 x.id, .int .i64 x.cost] _ RX.out Try.underlying32 rfl (itOk.row x) ?_; simp only [Act.put, List.setIfInBounds_toArray, List.set_cons_succ, List.set_cons_zero]; go_big_quiet_on)
      | (go_big_quiet_op; go_big_quiet_on)))
  refine wpQuiet_nil ?_
  rintro ⟨W2, hb2⟩
  dsimp only
  clear d1 RX hr
  have HM2 := Lib.hid (HM1.out.below hb2)
  clear HM1
  go_upto_region 8 with fail
  show Code.wp _ _ _ _ (W2.alloc (.cells #[.int .i64 x.id, .int .i64 x.cost, .pointer o, .pointer none] 53))
  have node := Four.new W2 53 (.int .i64 x.id) (.int .i64 x.cost) (.pointer o) (.pointer none)
  have hb3 : Below W2.heap.size W2 (W2.alloc (.cells #[.int .i64 x.id, .int .i64 x.cost, .pointer o, .pointer none] 53)) := (Below.refl _ _).alloc (Nat.le_refl _) _
  have HM3 := HM2.out.below hb3
  have hsz2 := hb2.size
  obtain ⟨g, hge⟩ : ∃ g, g = W2.heap.size := ⟨_, rfl⟩
  rw [← hge] at node
  rw [← hge]
  have hgw : w.heap.size < g := by omega
  generalize W2.alloc (.cells #[.int .i64 x.id, .int .i64 x.cost, .pointer o, .pointer none] 53) = W3 at node hb3 HM3 ⊢
  have HM4 : Mid (qF p m G) W1 W3 p m (G ++ [(g, x)]) (ptr G[0]?) (.pointer o) (costL (its G)) (fun i => if i < G.length then pv G i else .pointer o) (fun i => if i < G.length then nx G i else .pointer none) (mf G) G.length := ⟨HM3.box, HM3.ch.snoc node, HM3.map, HM3.hu⟩
  have hq : qF p m (G ++ [(g, x)]) = qF p m G ++ [g] := by simp [qF, blocks]
  have HN4 := Lib.hid (show (qF p m (G ++ [(g, x)])).Nodup from by
    rw [hq, List.nodup_append]
    refine ⟨hNB, by simp, fun a ha c hc => ?_⟩
    simp at hc
    subst hc
    intro e
    have := (hlow a ha).2
    omega)
  have fin := Lib.hid (show ∀ (W : World) (f : Value) (A E : Nat → Value), Mid (qF p m G) W1 W p m (G ++ [(g, x)]) f (.pointer (some ⟨g, 0, none⟩)) (costL (its G) + x.cost) A E (mf (G ++ [(g, x)])) (G.length + 1) → f = ptr (G ++ [(g, x)])[0]? → (∀ i, i < (G ++ [(g, x)]).length → A i = pv (G ++ [(g, x)]) i ∧ E i = nx (G ++ [(g, x)]) i) → Qu B W p m (G ++ [(g, x)]) from by
    intro W f A E hM hf hE
    have hit : its (G ++ [(g, x)]) = its G ++ [x] := by simp [its]
    refine ⟨?_, ?_, hM.ch.congr (fun i hi => (hE i hi).1) (fun i hi => (hE i hi).2), HN4.out, ?_, ?_, ?_⟩
    · have hbx := hM.box
      rw [hf] at hbx
      rw [hit, costL_snoc, show ptr (G ++ [(g, x)])[(G ++ [(g, x)]).length - 1]? = .pointer (some ⟨g, 0, none⟩) from by simp [ptr]]
      exact hbx
    · rw [List.length_append]; exact hM.map
    · intro b hb
      have hs := hM.hu.size
      rw [hq, List.mem_append] at hb
      rcases hb with hb | hb
      · have := hlow b hb; exact ⟨this.1, by omega⟩
      · simp at hb
        subst hb
        exact ⟨by omega, (hM.ch G.length b x (by simp)).lt⟩
    · rw [hit, List.map_append, List.nodup_append]
      refine ⟨hids, by simp, fun a ha c hc => ?_⟩
      simp at hc
      subst hc
      obtain ⟨y, hy, rfl⟩ := List.mem_map.1 ha
      exact hno.out y hy
    · intro y hy
      rw [hit, List.mem_append] at hy
      rcases hy with hy | hy
      · exact hgood y hy
      · simp at hy; subst hy; exact hgx)
  have hlg := hlp g
  clear HM2 HM3 node hb3 hge hsz2 hb2 hlp hids hgood hNB hq
  rcases hcase.out with ⟨rfl, rfl⟩ | ⟨k, gl, xl, hk1, hk2, rfl⟩
  · have c1 := HM4.box.c1
    have f0 := HM4.box.f0
    have f1 := HM4.box.f1
    have c0 := HM4.box.c0
    have HM4 := Lib.hid HM4
    clear hlow hgx hlg
    go_wp2_with fail
    have HM5 := (HM4.out.first HN4.out hpF (.pointer (some ⟨g, 0, none⟩))).last HN4.out hpF (.pointer (some ⟨g, 0, none⟩))
    have HF := Lib.hid (show Value.pointer (some ⟨g, 0, none⟩) = ptr ([] ++ [(g, x)] : List Lk)[0]? from rfl)
    have HE := Lib.hid (show ∀ i, i < ([] ++ [(g, x)] : List Lk).length → (if i < ([] : List Lk).length then pv [] i else .pointer none) = pv ([] ++ [(g, x)]) i ∧ (if i < ([] : List Lk).length then nx [] i else .pointer none) = nx ([] ++ [(g, x)]) i from by
      intro i hi
      have : i = 0 := by simpa using hi
      subst this
      exact ⟨rfl, rfl⟩)
    clear c0 c1 f0 f1 HM4
    generalize (W3.setCell ⟨p, 0, none⟩ (.pointer (some ⟨g, 0, none⟩))).setCell ⟨p, 1, none⟩ (.pointer (some ⟨g, 0, none⟩)) = W5 at HM5 ⊢
    have HMa := Lib.hid HM5
    have na := HM5.hu.cell hnF n0
    have nb := HM5.hu.cell hnF n1
    have dc2 := fun (z : Later W5) => z.cell HM5.box.c2
    have dn0 := fun (z : Later W5) => z.cell na
    clear HM5
    refine wp_region_later_tail 7 (by kernel_rfl) (by kernel_rfl) (Below.refl _ _) ?_
    simp only [List.take_succ_cons, List.take_zero, List.drop_succ_cons, List.drop_zero]
    repeat (first
      | go_big_quiet_skip
      | (go_big_quiet_want; (go_big_quiet_op; go_big_quiet_on)))
    refine wpQuiet_nil ?_
    rintro ⟨W6, hb6⟩
    dsimp only
    have HM6 := HMa.out.below hb6
    have nb6 := below_cell hb6 nb
    clear dc2 dn0 na nb HMa
    refine wl_update intKey rfl _ _ _ _ _ rfl keyAt rfl HM6.map x.id rfl (.pointer (some ⟨g, 0, none⟩)) rfl ?_
    intro W7 hu7 hm7
    simp only [Act.put]
    rw [hfr.out] at hm7
    have HM7 := HM6.table HN4.out hmF hu7 (hm7.congr (fun k => (mf_snoc _ (g, x) hno.out k).symm))
    have nb7 := hu7.cell hmw nb6
    clear HM6 nb6 hm7 hu7
    go_wp2_with fail
    have dc3 := fun (z : Later W7) => z.cell HM7.box.c3
    have dn1 := fun (z : Later W7) => z.cell nb7
    have HMb := Lib.hid HM7
    clear HM7 nb7
    refine wp_region_later_tail 9 (by kernel_rfl) (by kernel_rfl) (Below.refl _ _) ?_
    simp only [List.take_succ_cons, List.take_zero, List.drop_succ_cons, List.drop_zero]
    repeat (first
      | go_big_quiet_skip
      | (go_big_quiet_want; (go_big_quiet_op; go_big_quiet_on)))
    refine wpQuiet_nil ?_
    rintro ⟨W8, hb8⟩
    dsimp only
    have HM8 := Lib.hid (HMb.out.below hb8)
    have c3 := HM8.out.box.c3
    have f3 := HM8.out.box.f3
    clear dc3 dn1 HMb
    go_wp2_with fail
    go_ret
    have HM9 := fun v => HM8.out.cost HN4.out hpF v
    exact ⟨rfl, g, by omega, (Upd.ofBelow _ hb).trans (HM9 _).hu, fin.out _ _ _ _ (HM9 _) HF.out HE.out⟩
  · have hk4 : (G ++ [(g, x)])[k]? = some (gl, xl) := by rw [List.getElem?_append_left (by omega)]; exact hk2
    have hglF : gl ∈ qF p m G := by simp [qF, mem_blocks hk2]
    have nl := HM4.ch k gl xl hk4
    have c3l := nl.c3
    have f3l := nl.f3
    have c1 := HM4.box.c1
    have f1 := HM4.box.f1
    have HK4 := Lib.hid hk4
    have HM4 := Lib.hid HM4
    have HF := Lib.hid (show ptr G[0]? = ptr (G ++ [(g, x)])[0]? from by rw [List.getElem?_append_left (by omega)])
    have HE := Lib.hid (show ∀ i, i < (G ++ [(g, x)]).length → (if i < G.length then pv G i else .pointer (some ⟨gl, 0, none⟩)) = pv (G ++ [(g, x)]) i ∧ (if i = k then .pointer (some ⟨g, 0, none⟩) else if i < G.length then nx G i else .pointer none) = nx (G ++ [(g, x)]) i from by
      intro i hi
      rw [← push_pv G (g, x) i hi, ← push_nx G (g, x) i hi, ← hlg]
      refine ⟨rfl, ?_⟩
      dsimp only
      by_cases e : i = k
      · subst e
        rw [if_pos rfl, if_pos (by omega), if_pos (by omega)]; rfl
      · rw [if_neg e]
        by_cases e2 : i < G.length
        · rw [if_pos e2, if_pos e2, if_neg (by omega)]
        · rw [if_neg e2, if_neg e2])
    clear hlow hgx nl hk4 hk2 hlg
    go_wp2_with fail
    have HM5 := (HM4.out.behind HN4.out HK4.out hglF (.pointer (some ⟨g, 0, none⟩))).last HN4.out hpF (.pointer (some ⟨g, 0, none⟩))
    clear c1 f1 c3l f3l HM4
    generalize (W3.setCell ⟨gl, 3, none⟩ (.pointer (some ⟨g, 0, none⟩))).setCell ⟨p, 1, none⟩ (.pointer (some ⟨g, 0, none⟩)) = W5 at HM5 ⊢
    have HMa := Lib.hid HM5
    have na := HM5.hu.cell hnF n0
    have nb := HM5.hu.cell hnF n1
    have dc2 := fun (z : Later W5) => z.cell HM5.box.c2
    have dn0 := fun (z : Later W5) => z.cell na
    clear HM5
    refine wp_region_later_tail 7 (by kernel_rfl) (by kernel_rfl) (Below.refl _ _) ?_
    simp only [List.take_succ_cons, List.take_zero, List.drop_succ_cons, List.drop_zero]
    repeat (first
      | go_big_quiet_skip
      | (go_big_quiet_want; (go_big_quiet_op; go_big_quiet_on)))
    refine wpQuiet_nil ?_
    rintro ⟨W6, hb6⟩
    dsimp only
    have HM6 := HMa.out.below hb6
    have nb6 := below_cell hb6 nb
    clear dc2 dn0 na nb HMa
    refine wl_update intKey rfl _ _ _ _ _ rfl keyAt rfl HM6.map x.id rfl (.pointer (some ⟨g, 0, none⟩)) rfl ?_
    intro W7 hu7 hm7
    simp only [Act.put]
    rw [hfr.out] at hm7
    have HM7 := HM6.table HN4.out hmF hu7 (hm7.congr (fun k => (mf_snoc _ (g, x) hno.out k).symm))
    have nb7 := hu7.cell hmw nb6
    clear HM6 nb6 hm7 hu7
    go_wp2_with fail
    have dc3 := fun (z : Later W7) => z.cell HM7.box.c3
    have dn1 := fun (z : Later W7) => z.cell nb7
    have HMb := Lib.hid HM7
    clear HM7 nb7
    refine wp_region_later_tail 9 (by kernel_rfl) (by kernel_rfl) (Below.refl _ _) ?_
    simp only [List.take_succ_cons, List.take_zero, List.drop_succ_cons, List.drop_zero]
    repeat (first
      | go_big_quiet_skip
      | (go_big_quiet_want; (go_big_quiet_op; go_big_quiet_on)))
    refine wpQuiet_nil ?_
    rintro ⟨W8, hb8⟩
    dsimp only
    have HM8 := Lib.hid (HMb.out.below hb8)
    have c3 := HM8.out.box.c3
    have f3 := HM8.out.box.f3
    clear dc3 dn1 HMb
    go_wp2_with fail
    go_ret
    have HM9 := fun v => HM8.out.cost HN4.out hpF v
    exact ⟨rfl, g, by omega, (Upd.ofBelow _ hb).trans (HM9 _).hu, fin.out _ _ _ _ (HM9 _) HF.out HE.out⟩

end Go.Proofs.Ytegkjbndnonneaa
