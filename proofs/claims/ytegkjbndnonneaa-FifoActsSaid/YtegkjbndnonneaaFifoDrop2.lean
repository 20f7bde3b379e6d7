/- Drop of an operation that is there. -/
import Derived.Test.YtegkjbndnonneaaFifoDrop
set_option linter.unusedVariables false
namespace Go.Proofs.Ytegkjbndnonneaa
open Go.RowKit

/-- Behind the first test: what points to the link from ahead of it points past it. -/
def M1 (F : List Nat) (w0 : World) (p m : Nat) (G : List Lk) (k : Nat) (w : World) : Prop :=
  Mid F w0 w p m G (if k = 0 then nx G k else ptr G[0]?) (ptr G[G.length - 1]?) (costL (its G)) (pv G) (fun i => if i + 1 = k then nx G k else nx G i) (mf G) G.length
/-- Behind the second: from behind it too. -/
def M2 (F : List Nat) (w0 : World) (p m : Nat) (G : List Lk) (k : Nat) (t : Int → Option Value) (n : Nat) (c : Int) (w : World) : Prop :=
  Mid F w0 w p m G (if k = 0 then nx G k else ptr G[0]?) (if k + 1 = G.length then pv G k else ptr G[G.length - 1]?) c (fun i => if i = k + 1 then pv G k else pv G i) (fun i => if i + 1 = k then nx G k else nx G i) t n

section
variable {F : List Nat} {w0 w : World} {p m k g : Nat} {x : It} {G : List Lk} {t : Int → Option Value} {n : Nat} {c : Int}
theorem Mid.congr {f l f' l' : Value} {A E A' E' : Nat → Value} (h : Mid F w0 w p m G f l c A E t n) (hf : f = f') (hl : l = l') (hA : ∀ i, i < G.length → A i = A' i) (hE : ∀ i, i < G.length → E i = E' i) : Mid F w0 w p m G f' l' c A' E' t n := by
  subst hf; subst hl
  exact ⟨h.box, h.ch.congr hA hE, h.map, h.hu⟩
theorem m1_first (h : Mid F w0 w p m G (ptr G[0]?) (ptr G[G.length - 1]?) (costL (its G)) (pv G) (nx G) (mf G) G.length) (hn : (qF p m G).Nodup) (hF : p ∈ F) (hk : k = 0) (v : Value) (hv : nx G k = v) :
    M1 F w0 p m G k (w.setCell ⟨p, 0, none⟩ v) := by
  subst hk; subst hv
  exact (h.first hn hF _).congr (by rw [if_pos rfl]) rfl (fun _ _ => rfl) (fun i _ => by rw [if_neg (by omega)])
theorem m1_next (h : Mid F w0 w p m G (ptr G[0]?) (ptr G[G.length - 1]?) (costL (its G)) (pv G) (nx G) (mf G) G.length) (hn : (qF p m G).Nodup) {j ga : Nat} {xa : It} (hk : k = j + 1) (hj : G[j]? = some (ga, xa)) (hF : ga ∈ F) (v : Value) (hv : nx G k = v) :
    M1 F w0 p m G k (w.setCell ⟨ga, 3, none⟩ v) := by
  subst hk; subst hv
  refine (h.behind hn hj hF _).congr (by rw [if_neg (by omega)]) rfl (fun _ _ => rfl) (fun i _ => ?_)
  by_cases e : i = j
  · rw [if_pos e, if_pos (by omega)]
  · rw [if_neg e, if_neg (by omega)]
theorem m2_last (h : M1 F w0 p m G k w) (hn : (qF p m G).Nodup) (hF : p ∈ F) (hk : k + 1 = G.length) (v : Value) (hv : pv G k = v) :
    M2 F w0 p m G k (mf G) G.length (costL (its G)) (w.setCell ⟨p, 1, none⟩ v) := by
  subst hv
  exact (Mid.last h hn hF _).congr rfl (by rw [if_pos hk]) (fun i hi => by rw [if_neg (by omega)]) (fun _ _ => rfl)
theorem m2_next (h : M1 F w0 p m G k w) (hn : (qF p m G).Nodup) {gb : Nat} {xb : It} (hj : G[k + 1]? = some (gb, xb)) (hF : gb ∈ F) (v : Value) (hv : pv G k = v) :
    M2 F w0 p m G k (mf G) G.length (costL (its G)) (w.setCell ⟨gb, 2, none⟩ v) := by
  subst hv
  have hl : k + 1 < G.length := (List.getElem?_eq_some_iff.1 hj).1
  exact (Mid.ahead h hn hj hF _).congr rfl (by rw [if_neg (by omega)]) (fun i hi => rfl) (fun _ _ => rfl)
theorem M1.node (h : M1 F w0 p m G k w) (hk : G[k]? = some (g, x)) : Four w g (.int .i64 x.id) (.int .i64 x.cost) (pv G k) (nx G k) := by
  have := h.ch k g x hk
  rwa [if_neg (by omega)] at this
theorem M2.node (h : M2 F w0 p m G k t n c w) (hk : G[k]? = some (g, x)) : Four w g (.int .i64 x.id) (.int .i64 x.cost) (pv G k) (nx G k) := by
  have := h.ch k g x hk
  rwa [if_neg (by omega), if_neg (by omega)] at this
/-- At the end. -/
theorem costL_erase : ∀ (L : List It) (k : Nat) (x : It), L[k]? = some x → costL (L.eraseIdx k) = costL L - x.cost
  | [], k, x, h => by simp at h
  | y :: r, 0, x, h => by simp at h; subst h; simp [costL]; omega
  | y :: r, k + 1, x, h => by
    simp at h
    simp only [List.eraseIdx_cons_succ, costL]
    rw [costL_erase r k x h]; omega
theorem its_erase (G : List Lk) (k : Nat) : its (G.eraseIdx k) = (its G).eraseIdx k := by
  unfold its
  rw [List.eraseIdx_eq_take_drop_succ, List.eraseIdx_eq_take_drop_succ, List.map_append, List.map_take, List.map_drop]
theorem m2_qu {B : Nat} (hlow : ∀ b ∈ qF p m G, B ≤ b ∧ b < w0.heap.size) (hn : (qF p m G).Nodup) (hids : ((its G).map It.id).Nodup) (hgood : GoodIt (its G)) (hk : G[k]? = some (g, x))
    (h : M2 F w0 p m G k (fun y => if y = x.id then none else mf G y) (G.length - 1) (costL (its G) - x.cost) w) : Qu B w p m (G.eraseIdx k) := by
  have hkl : k < G.length := (List.getElem?_eq_some_iff.1 hk).1
  have hlen : (G.eraseIdx k).length = G.length - 1 := List.length_eraseIdx_of_lt hkl
  have hsub : (G.eraseIdx k).Sublist G := List.eraseIdx_sublist G k
  have hsq : (qF p m (G.eraseIdx k)).Sublist (qF p m G) := (List.Sublist.cons_cons p (List.Sublist.cons_cons m (hsub.map _)))
  have e0 : (if k = 0 then nx G k else ptr G[0]?) = ptr (G.eraseIdx k)[0]? := by
    rw [erase_at]
    by_cases e : k = 0
    · rw [if_pos e, if_neg (by omega)]; subst e; rfl
    · rw [if_neg e, if_pos (by omega)]
  have e1 : (if k + 1 = G.length then pv G k else ptr G[G.length - 1]?) = ptr (G.eraseIdx k)[(G.eraseIdx k).length - 1]? := by
    rw [hlen]
    by_cases e : k + 1 = G.length
    · rw [if_pos e]
      cases k with
      | zero =>
        rw [erase_at, if_neg (by omega), List.getElem?_eq_none (by omega)]; rfl
      | succ j =>
        rw [erase_at, if_pos (by omega), show G.length - 1 - 1 = j by omega]; rfl
    · rw [if_neg e, erase_at, if_neg (by omega), show G.length - 1 - 1 + 1 = G.length - 1 by omega]
  refine ⟨?_, ?_, ?_, hn.sublist hsq, ?_, ?_, ?_⟩
  · have hb := h.box
    rw [e0, e1] at hb
    rw [its_erase, costL_erase _ _ _ (its_at hk)]
    exact hb
  · rw [hlen]
    exact h.map.congr (fun y => (mf_erase hids hk y).symm)
  · exact (h.ch.erase k).congr (fun i hi => drop_pv hkl i hi) (fun i hi => drop_nx hkl i hi)
  · intro b hb
    have h1 := hlow b (hsq.subset hb)
    have h2 := h.hu.size
    omega
  · exact hids.sublist (by rw [its_erase]; exact (List.eraseIdx_sublist _ k).map _)
  · intro y hy
    rw [its_erase] at hy
    exact hgood y ((List.eraseIdx_sublist _ k).subset hy)
end

set_option maxRecDepth 100000 in
set_option maxHeartbeats 8000000 in
theorem drop_yes (w : World) (B p m : Nat) (G : List Lk) (h : Qu B w p m G) (k g : Nat) (x : It) (hk : G[k]? = some (g, x)) (hbig : G.length ≤ 100000) :
    Calls Try.prog 11 #[.pointer (some ⟨p, 0, none⟩), .int .i64 x.id] w fun e w' => e = .returned (.tuple #[.agg (itR.cells x).toArray, .bool true]) ∧ Upd (qF p m G) w w' ∧ Qu B w' p m (G.eraseIdx k) := by
  obtain ⟨W1, hW1⟩ : ∃ W1, W1 = w.alloc (.cells (itR.cells zeroIt).toArray 32) := ⟨_, rfl⟩
  have hb : Below w.heap.size w W1 := by rw [hW1]; exact (Below.refl _ _).alloc (Nat.le_refl _) _
  have ht1 := freshR_there itOk w x
  rw [show w.alloc (.cells (itR.val itR.zero).cells itR.ty) = W1 from hW1.symm] at ht1
  have hs1 : W1.heap.size = w.heap.size + 1 := by rw [hW1]; simp
  have h1 := h.below hb
  have KH := Lib.hid (has_yes W1 B p m G h1 k g x hk)
  have hkl : k < G.length := (List.getElem?_eq_some_iff.1 hk).1
  have hf0 := Lib.hid (show (mf G x.id).getD (.pointer none) = .pointer (some ⟨g, 0, none⟩) from by rw [mf_at h.ids hk]; rfl)
  have hfs := Lib.hid (show (if (mf G x.id).isSome = true then G.length - 1 else G.length) = G.length - 1 from by rw [mf_at h.ids hk]; rfl)
  obtain ⟨oa, hoa⟩ : ∃ oa, pv G k = .pointer oa := by cases k with
    | zero => exact ⟨_, rfl⟩
    | succ j => exact ⟨_, rfl⟩
  obtain ⟨on, hon⟩ : ∃ on, nx G k = .pointer on := ⟨_, rfl⟩
  have HA := Lib.hid (show (oa = none ∧ k = 0) ∨ ∃ (j ga : Nat) (xa : It), k = j + 1 ∧ G[j]? = some (ga, xa) ∧ oa = some ⟨ga, 0, none⟩ from by
    cases k with
    | zero => exact .inl ⟨by simpa [pv] using hoa.symm, rfl⟩
    | succ j =>
      obtain ⟨⟨ga, xa⟩, hj⟩ : ∃ q, G[j]? = some q := ⟨_, List.getElem?_eq_getElem (by omega)⟩
      refine .inr ⟨j, ga, xa, rfl, hj, ?_⟩
      have : ptr G[j]? = .pointer oa := hoa
      rw [hj] at this
      simpa [ptr] using this.symm)
  have HB := Lib.hid (show (on = none ∧ k + 1 = G.length) ∨ ∃ (gb : Nat) (xb : It), G[k + 1]? = some (gb, xb) ∧ on = some ⟨gb, 0, none⟩ from by
    by_cases hl : k + 1 < G.length
    · obtain ⟨⟨gb, xb⟩, hj⟩ : ∃ q, G[k + 1]? = some q := ⟨_, List.getElem?_eq_getElem hl⟩
      refine .inr ⟨gb, xb, hj, ?_⟩
      have : ptr G[k + 1]? = .pointer on := hon
      rw [hj] at this
      simpa [ptr] using this.symm
    · refine .inl ⟨?_, by omega⟩
      have : ptr G[k + 1]? = .pointer on := hon
      rw [List.getElem?_eq_none (by omega)] at this
      simpa [ptr] using this.symm)
  have HM1 := Lib.hid (show Mid (qF p m G) W1 W1 p m G (ptr G[0]?) (ptr G[G.length - 1]?) (costL (its G)) (pv G) (nx G) (mf G) G.length from ⟨h1.box, h1.ch, h1.map, Upd.refl _ _⟩)
  have HN := Lib.hid h.nb
  have HK := Lib.hid hk
  have hpF : p ∈ qF p m G := by simp [qF]
  have hmF : m ∈ qF p m G := by simp [qF]
  have hgF : ∀ j y z, G[j]? = some (y, z) → y ∈ qF p m G := fun j y z hj => by have := mem_blocks hj; simp [qF, this]
  have HGF := Lib.hid hgF
  have hlow := Lib.hid h1.low
  have hnF : w.heap.size ∉ qF p m G := fun e => Nat.lt_irrefl _ (h.low _ e).2
  have hids := Lib.hid h.ids
  have hgood := Lib.hid h.good
  have HOA := Lib.hid hoa
  have HON := Lib.hid hon
  clear h h1 hk hgF hoa hon hkl
  go_enter Try.func11, Try.ntmps11
  go_upto_region 1 with fail
  show Code.wp _ _ _ _ (w.alloc (.cells (itR.cells zeroIt).toArray 32))
  rw [← hW1]
  clear hW1
  have node := HM1.out.ch k g x HK.out
  rw [HOA.out, HON.out] at node
  have c2 := HM1.out.box.c2
  have c2n := node.c2
  have c3n := node.c3
  clear node
  go_upto_if 22 with (first
    | (go_at_call 20; refine KH.out.mono ?_; rintro e W9 ⟨rfl, rfl⟩)
    | (refine wl_lookup intKey rfl _ _ _ _ rfl keyAt zeroLink rfl HM1.out.map x.id rfl ?_; rw [hf0.out]))
  go_cut [6] (fun s6 wx => s6 = .pointer (some ⟨g, 0, none⟩) ∧ M1 (qF p m G) W1 p m G k wx)
  case first =>
    rcases HA.out with ⟨rfl, hk0⟩ | ⟨j, ga, xa, hkj, hj, rfl⟩
    · have HK0 := Lib.hid hk0
      have c0 := HM1.out.box.c0
      have f0 := HM1.out.box.f0
      clear hk0
      go_wp2_with fail
      go_meet
      exact ⟨rfl, m1_first HM1.out HN.out hpF HK0.out _ HON.out⟩
    · have d2 := fun (z : Later W1) => z.cell c2n
      have d3 := fun (z : Later W1) => z.cell c3n
      have HJ := Lib.hid hj
      have HKJ := Lib.hid hkj
      have hgaF := HGF.out _ _ _ hj
      clear hj hkj c2 c2n c3n
      go_upto_region 6 with fail
      refine wp_region_later_tail 10 (by kernel_rfl) (by kernel_rfl) (Below.refl _ _) ?_
      simp only [List.take_succ_cons, List.take_zero, List.drop_succ_cons, List.drop_zero]
      repeat (first
        | go_big_quiet_skip
        | (go_big_quiet_want; (go_big_quiet_op; go_big_quiet_on)))
      refine wpQuiet_nil ?_
      rintro ⟨W2, hb2⟩
      dsimp only
      have HM2 := Lib.hid (HM1.out.below hb2)
      have nf3 := (HM2.out.ch _ _ _ HJ.out).f3
      have nc3 := (HM2.out.ch _ _ _ HJ.out).c3
      clear d2 d3
      go_wp2_with fail
      go_meet
      exact ⟨rfl, m1_next HM2.out HN.out HKJ.out HJ.out hgaF _ HON.out⟩
  case rest =>
    obtain ⟨rfl, hM⟩ := hcut
    clear c2 c2n c3n
    have node := hM.node HK.out
    rw [HOA.out, HON.out] at node
    have c2n := node.c2
    have c3n := node.c3
    have HM2 := Lib.hid hM
    clear node hM
    go_upto_if 44 with fail
    go_cut [6] (fun s6 wx => s6 = .pointer (some ⟨g, 0, none⟩) ∧ M2 (qF p m G) W1 p m G k (mf G) G.length (costL (its G)) wx)
    case first =>
      rcases HB.out with ⟨rfl, hkl⟩ | ⟨gb, xb, hj, rfl⟩
      · have HKL := Lib.hid hkl
        have c1 := HM2.out.box.c1
        have f1 := HM2.out.box.f1
        clear hkl
        go_wp2_with fail
        go_meet
        exact ⟨rfl, m2_last HM2.out HN.out hpF HKL.out _ HOA.out⟩
      · have d2 := fun (z : Later wc) => z.cell c2n
        have d3 := fun (z : Later wc) => z.cell c3n
        have HJ := Lib.hid hj
        have hgbF := HGF.out _ _ _ hj
        clear hj c2n c3n
        go_upto_region 9 with fail
        refine wp_region_later_tail 10 (by kernel_rfl) (by kernel_rfl) (Below.refl _ _) ?_
        simp only [List.take_succ_cons, List.take_zero, List.drop_succ_cons, List.drop_zero]
        repeat (first
          | go_big_quiet_skip
          | (go_big_quiet_want; (go_big_quiet_op; go_big_quiet_on)))
        refine wpQuiet_nil ?_
        rintro ⟨W2, hb2⟩
        dsimp only
        have HM3 := Lib.hid (show M1 (qF p m G) W1 p m G k W2 from Mid.below HM2.out hb2)
        have nf2 := (HM3.out.ch _ _ _ HJ.out).f2
        have nc2 := (HM3.out.ch _ _ _ HJ.out).c2
        clear d2 d3
        go_wp2_with fail
        go_meet
        exact ⟨rfl, m2_next HM3.out HN.out HJ.out hgbF _ HOA.out⟩
    case rest =>
      obtain ⟨rfl, hM⟩ := hcut
      clear c2n c3n
      have HM3 := Lib.hid hM
      have c2 := hM.box.c2
      clear hM
      go_upto_region 11 with (refine wl_delete intKey rfl _ _ _ _ _ rfl keyAt rfl HM3.out.map x.id rfl ?_; intro W5 hu5 hm5; rw [hfs.out] at hm5; simp only [Act.put])
      have HM5 : M2 (qF p m G) W1 p m G k (fun y => if y = x.id then none else mf G y) (G.length - 1) (costL (its G)) W5 := Mid.table HM3.out HN.out hmF hu5 hm5
      have node := HM5.node HK.out
      have hsum := hgood.out.sum
      rw [its_length] at hsum
      have hxc := hgood.out x (List.mem_of_getElem? (its_at HK.out))
      have d1 := fun (z : Later W5) => z.cell node.c1
      have d3 := fun (z : Later W5) => z.cell HM5.box.c3
      have HM5 := Lib.hid HM5
      clear node c2 hu5 hm5
      refine wp_region_later_tail 12 (by kernel_rfl) (by kernel_rfl) (Below.refl _ _) ?_
      simp only [List.take_succ_cons, List.take_zero, List.drop_succ_cons, List.drop_zero]
      repeat (first
        | go_big_quiet_skip
        | (go_big_quiet_want; (go_big_quiet_op; go_big_quiet_on)))
      refine wpQuiet_nil ?_
      rintro ⟨W6, hb6⟩
      dsimp only
      have HM6 := Lib.hid (show M2 (qF p m G) W1 p m G k (fun y => if y = x.id then none else mf G y) (G.length - 1) (costL (its G)) W6 from Mid.below HM5.out hb6)
      have f3 := HM6.out.box.f3
      have c3 := HM6.out.box.c3
      clear d1 d3
      go_upto_region 12 with fail
      have HM7 : M2 (qF p m G) W1 p m G k (fun y => if y = x.id then none else mf G y) (G.length - 1) (costL (its G) - x.cost) (W6.setCell ⟨p, 3, none⟩ (.int .i64 (costL (its G) - x.cost))) := Mid.cost HM6.out HN.out hpF _
      generalize W6.setCell ⟨p, 3, none⟩ (.int .i64 (costL (its G) - x.cost)) = W7 at HM7 ⊢
      have hr := (HM7.node HK.out).first
      have ht7 := HM7.hu.there hnF ht1
      have HQ := m2_qu hlow.out HN.out hids.out hgood.out HK.out HM7
      have hu7 := (Upd.ofBelow (qF p m G) hb).trans HM7.hu
      have hx8 : (W7.setCells w.heap.size 0 (itR.cells x)).rangeAt w.heap.size 0 (itR.cells x) := World.rangeAt_setCells_same _ _ _ _ (by simpa using ht7)
      have hu8 : Upd [w.heap.size] W7 (W7.setCells w.heap.size 0 (itR.cells x)) := (Upd.refl _ _).setCells (by simp) _ _
      have HQ8 := Lib.hid (HQ.upd hu8 (fun b hb2 => by
        have := (List.eraseIdx_sublist G k).map (·.1)
        simp
        intro e
        subst e
        exact hnF ((List.Sublist.cons_cons p (List.Sublist.cons_cons m this)).subset hb2)))
      have hu9 := Lib.hid (hu7.transG hu8 (fun i hi => .inr (by simp at hi; omega)))
      clear HM7 HQ hu7 c3 f3
      go_wp2_with (first
        | (refine wpList_load_mid rfl 32 _ rfl g 0 rfl (itR.cells x) _ hr Try.underlying32 rfl (itOk.row x) ?_)
        | (refine wpList_store_mid rfl 32 _ _ rfl w.heap.size 0 (itR.cells x).toArray rfl rfl ht7 (itOk.row' x) (itOk.one' x) ?_; show wpList _ _ _ _ _ (W7.setCells w.heap.size 0 (itR.cells x)); generalize W7.setCells w.heap.size 0 (itR.cells x) = W8 at hx8 HQ8 hu9 hu8 ⊢))
      refine bodyPost_ret (results_it_tmp rfl _ _ w.heap.size (itR.cells x) _ rfl hx8 Try.underlying32 rfl (itOk.row x)) rfl ⟨rfl, hu9.out, HQ8.out⟩

end Go.Proofs.Ytegkjbndnonneaa
