/- The document's table of histograms: Observe. -/
import Derived.Test.YteifjlhkfmoljaaHSame
set_option linter.unusedVariables false
namespace Go.Proofs.Yteifjlhkfmoljaa
open Go.RowKit

def robs (R : Int) (k : ByteArray) (x : Int) (L : List Rw) : List Rw :=
  if R < ((oth k L ++ [(k, addHs (look k L) x)]).length : Int) then (oth k L ++ [(k, addHs (look k L) x)]).drop 1 else oth k L ++ [(k, addHs (look k L) x)]
theorem rhadd_any (v : Hs) (x : Int) (w : World) (h0 : 0 ≤ x) (h1 : x ≤ 18446744073709551615) :
    Calls Try.prog 23 #[hV v, .int .u64 x] w fun e w' => e = .returned (hV (addHs v x)) ∧ Below w.heap.size w w' := refAdd_at v.1 v.2 x w h0 h1
/-- The document's table in memory. -/
structure RH (B : Nat) (w : World) (r : Nat) (room : Int) (u : Value) (L : List Rw) : Prop where
  box : Cel w r [.int .i64 room, u]
  out : ReadsOut rowR [r] w u L
  low : B ≤ r
  few : L.length < 100000
theorem RH.below {B : Nat} {w w' : World} {r : Nat} {room : Int} {u : Value} {L : List Rw} (h : RH B w r room u L) (hb : Below w.heap.size w w') : RH B w' r room u L :=
  ⟨h.box.below hb, h.out.upd (Upd.ofBelow _ hb), h.low, h.few⟩
theorem oth_snoc {k : ByteArray} {L : List Rw} {p : Rw} : oth k (L ++ [p]) = if p.1 ≠ k then oth k L ++ [p] else oth k L := by
  unfold oth
  rw [List.filter_append]
  by_cases h : p.1 = k
  · rw [if_neg (fun hh => hh h), List.filter_cons_of_neg (by simp [h])]
    simp
  · rw [if_pos h, List.filter_cons_of_pos (by simp [h])]
    rfl
theorem oth_len (k : ByteArray) (L : List Rw) : (oth k L).length ≤ L.length := List.length_filter_le _ _
theorem reads_tail {B : Nat} {w : World} {g n cap : Nat} {M : List Rw} (h : ReadsAt rowR B w (.slice (some ⟨g, 0, none⟩) (n + 1) cap) M) (hM : M.length = n + 1) (hc : n + 1 ≤ cap) :
    ReadsAt rowR B w (.slice (if cap = 1 then some ⟨g, 0, none⟩ else some ⟨g, 17, none⟩) n (cap - 1)) (M.drop 1) := by
  by_cases h0 : n = 0
  · subst h0
    exact .inl ⟨List.drop_eq_nil_of_le (by omega), _, _, rfl⟩
  · rw [if_neg (by omega)]
    rcases h with ⟨h1, _⟩ | ⟨b, off, cap', hv, hb, hr⟩
    · rw [h1] at hM; simp at hM
    · simp only [Value.slice.injEq, Option.some.injEq, Addr.mk.injEq, and_true] at hv
      obtain ⟨⟨rfl, rfl⟩, hl, rfl⟩ := hv
      refine .inr ⟨g, 17, cap - 1, by rw [List.length_drop, hM]; simp, hb, fun i x hx => ?_⟩
      rw [List.getElem?_drop] at hx
      have := hr _ _ hx
      rw [show 0 + (1 + i) * rowR.n = 17 + i * rowR.n from by show 0 + (1 + i) * 17 = 17 + i * 17; omega] at this
      exact this
theorem wl_build2 {ops : Array Oper} {rest : List Oper} {o : Oper} {a : Act} {w : World} {Q : Exit → Act → World → Prop} (hg : o.guard = none) (t : TypeId) (parts : Array (Nat × Operand)) (ho : o.op = .build t parts)
    (ps : List (Nat × Value)) (hp : (parts.map fun (i, x) => (i, a.eval x)).toList = ps) (cells : Array Value) (hf : Try.prog.built t ps = some cells)
    (h : wpList Try.prog ops Q rest (a.put o.dst (.agg cells)) w) : wpList Try.prog ops Q (o :: rest) a w := by
  refine wpList_plain hg fun _ hK => ?_
  unfold Oper.wp execOp
  simp only [ho, Sem.run_bind, run_build w t _ _ (hp ▸ hf), Result.andThen_ok]
  exact hK _ _ h
theorem ReadsAt.mono {α : Type} {R : Rec α} {B B' : Nat} {w : World} {v : Value} {L : List α} (h : ReadsAt R B w v L) (hb : B' ≤ B) : ReadsAt R B' w v L := by
  rcases h with h | ⟨b, off, cap, hv, h2, hr⟩
  · exact .inl h
  · exact .inr ⟨b, off, cap, hv, by omega, hr⟩
theorem ReadsAt.upd {α : Type} {R : Rec α} {B : Nat} {F : List Nat} {w w' : World} {v : Value} {L : List α} (h : ReadsAt R B w v L) (hu : Upd F w w') (hF : ∀ i ∈ F, i < B) : ReadsAt R B w' v L := by
  rcases h with h | ⟨b, off, cap, hv, h2, hr⟩
  · exact .inl h
  · exact .inr ⟨b, off, cap, hv, h2, fun i x hx => hu.range (fun hin => by have := hF b hin; omega) (hr i x hx)⟩
def RSeen (w : World) (B r : Nat) (room : Int) (k : ByteArray) (x : Int) (L : List Rw) (e : Ending) (w' : World) : Prop :=
  e = .returned (.tuple #[]) ∧ Upd [r] w w' ∧ ∃ u, RH B w' r room u (robs room k x L) ∧ ReadsAt rowR w.heap.size w' u (robs room k x L)

set_option maxRecDepth 100000 in
set_option maxHeartbeats 1500000 in
theorem robserve_any (w : World) (B r : Nat) (room : Int) (u : Value) (L : List Rw) (h : RH B w r room u L) (k : ByteArray) (x : Int) (hx0 : 0 ≤ x) (hx1 : x ≤ 18446744073709551615) (hbig : L.length ≤ 1000) :
    Calls Try.prog 11 #[.pointer (some ⟨r, 0, none⟩), .string k, .int .u64 x] w (RSeen w B r room k x L) := by
  obtain ⟨al, cl, rfl⟩ := h.out.lts.form
  have HT := Lib.hid h
  have hr := h.box.range
  have KH := Lib.hid (rhist_any w room _ L k h.out.lts (by omega))
  obtain ⟨z, hz⟩ : ∃ z, z = look k L := ⟨_, rfl⟩
  rw [← hz] at KH
  have HZ := Lib.hid hz
  clear h hz
  have KA := Lib.hid (fun W => rhadd_any z x W hx0 hx1)
  obtain ⟨v, hv⟩ : ∃ v, v = addHs z x := ⟨_, rfl⟩
  rw [← hv] at KA
  have HVV := Lib.hid hv
  clear hv
  go_enter Try.func11, Try.ntmps11
  go_upto_region 1 with (first
    | (refine wpList_load_mid rfl 39 _ rfl r 0 rfl [.int .i64 room, .slice al L.length cl] _ hr Try.underlying39 rfl tgRow ?_)
    | (go_at_call 24; refine KH.out.mono ?_; rintro e W1 ⟨rfl, hb1⟩)
    | (go_at_call 23; refine (KA.out _).mono ?_; rintro e W2 ⟨rfl, hb2⟩)
    | (refine wpList_store_row rfl 49 _ _ rfl W2.heap.size (vh v).toArray rfl rfl 49 (vh noH).toArray (heap_alloc_new _ _) (vhRow' v) (by simp only [List.size_toArray, vh_length]) (vhOne v) ?_))
  show Code.wp _ _ _ _ ((W2.alloc (.cells (vh noH).toArray 49)).setRow W2.heap.size (vh v).toArray)
  have hn3 : ((W2.alloc (.cells (vh noH).toArray 49)).setRow W2.heap.size (vh v).toArray).heap[W2.heap.size]? = some (.cells (vh v).toArray 49 (0, 0)) := setRow_heap _ _ _ _ _ _ (heap_alloc_new _ _)
  have hb4 : Below w.heap.size w ((W2.alloc (.cells (vh noH).toArray 49)).setRow W2.heap.size (vh v).toArray) := below_row ((bthen' hb1 hb2).alloc (bthen' hb1 hb2).size _) (bthen' hb1 hb2).size _
  generalize (W2.alloc (.cells (vh noH).toArray 49)).setRow W2.heap.size (vh v).toArray = W4 at hn3 hb4 ⊢
  generalize W2.heap.size = n6 at hn3 ⊢
  have HT4 := Lib.hid (HT.out.below hb4)
  go_upto_block 0 with fail
  have hO2 := Owns.made (R := rowR) (B := W4.heap.size) (w := W4) (Nat.le_refl _)
  have hb5 : Below W4.heap.size W4 (W4.alloc (.cells #[] rowR.ty)) := (Below.refl _ _).alloc (Nat.le_refl _) _
  show Code.wp _ _ _ _ (W4.alloc (.cells #[] rowR.ty))
  generalize W4.alloc (.cells #[] rowR.ty) = W5 at hO2 hb5 ⊢
  clear hr KH KA hb1 hb2
  go_wp2_with fail
  go_loopw [7, 8] (fun n i wr => ∃ q : Nat, q ≤ L.length ∧ i = .int .i64 q ∧ Below W4.heap.size W4 wr ∧ Owns rowR W4.heap.size wr n (oth k (L.take q))) (fun _ i _ => L.length - (intOf i).toNat)
  case atStart => exact ⟨0, by omega, rfl, hb5, by simpa [oth] using hO2⟩
  case round =>
    clear hO2 hb5
    obtain ⟨q, hq, rfl, hW, hO⟩ := hrel
    have HO := Lib.hid hO
    have HW := Lib.hid hW
    have hwr := hW.size
    have HT2 := HT4.out.below hW
    have c1 := HT2.box.get (i := 1) rfl
    clear hO hW
    by_cases hlt : q < L.length
    · obtain ⟨y, hy⟩ : ∃ y, L[q]? = some y := ⟨_, List.getElem?_eq_getElem hlt⟩
      obtain ⟨b, off, rfl, hr2⟩ := HT2.out.lts.at hy
      obtain ⟨r0, -⟩ := row_parts hr2
      replace r0 : wr.cell? ⟨b, off + q * 17, none⟩ = some (.string y.1) := r0
      have T := oth_snoc (k := k) (L := L.take q) (p := y)
      rw [take_snoc hy] at T
      have hl2 : (oth k (L.take q)).length ≤ q := by
        have := oth_len k (L.take q)
        rw [List.length_take] at this; omega
      by_cases hqi : y.1 = k
      · have hqb : (y.1.toList == k.toList) = true := by rw [hqi]; simp
        rw [if_neg (fun h => h hqi)] at T
        have T := Lib.hid T
        clear hy HT2 hqi hr2
        go_wp2_with fail
        go_roundw
        case rel => exact ⟨q + 1, by omega, by go_num, HW.out, by rw [T.out]; exact HO.out⟩
        case measure => simp [intOf]; omega
      · have hqb : (y.1.toList == k.toList) = false := by rw [beq_eq_false_iff_ne, Ne, bytes_inj']; exact hqi
        rw [if_pos hqi] at T
        have T := Lib.hid T
        have HR2 := Lib.hid hr2
        clear hy HT2 hqi hr2
        go_wp2_with (first
          | (refine wpList_load_mid rfl 61 _ rfl b (off + q * rowR.n) rfl (rowR.cells y) _ HR2.out Try.underlying61 rfl (rowOk.row y) ?_)
          | (refine wl_build_rec rowOk rfl _ rfl y rfl ?_; have hx5 := built_range (R := rowR) (w := wr) y; have hb5 : Below wr.heap.size wr (wr.alloc (.cells (rowR.val y).cells rowR.ty)) := (Below.refl _ _).alloc (Nat.le_refl _) _; generalize wr.alloc (.cells (rowR.val y).cells rowR.ty) = W5 at hx5 hb5 ⊢; have hOo := HO.out.below hb5; have hszT := hb5.size)
          | (refine wl_append_rec rowOk rfl _ _ rfl W4.heap.size _ (oth k (L.take q)) rfl hOo wr.heap.size 0 1 y rfl hx5 (by omega) (by omega) ?_; intro g cap W6 hO6 hg6 hat6))
        rw [← T.out] at hO6
        have hW6 := (bthen' HW.out hb5).grown hg6 (by omega) (fun k hk => (hOo.lt k hk).1)
        go_roundw
        case rel => exact ⟨q + 1, by omega, by go_num, hW6, hO6⟩
        case measure => simp [intOf]; omega
    · obtain rfl : q = L.length := by omega
      have hO := HO.out
      rw [List.take_length] at hO
      obtain ⟨a6, cap6, rfl⟩ := hO.form
      have HO2 := Lib.hid hO
      have HT3 := Lib.hid HT2
      clear HO hO HT2
      have hn6 := kept HW.out hn3
      have hol := oth_len k L
      go_upto_region 8 with (first
        | (refine wpList_load_row rfl 49 _ rfl n6 rfl 49 (vh v).toArray (0, 0) _ hn6 histU rfl (vhRow' v) ?_)
        | (refine wl_build2 rfl 61 _ rfl [(0, .string k), (1, hV v)] (by kernel_rfl) (rowC (k, v)).toArray (row_built k v) ?_)
        | (refine wl_build_rec rowOk rfl _ rfl (k, v) rfl ?_; have hx5 := built_range (R := rowR) (w := wr) (k, v); have hb5 : Below wr.heap.size wr (wr.alloc (.cells (rowR.val (k, v)).cells rowR.ty)) := (Below.refl _ _).alloc (Nat.le_refl _) _; generalize wr.alloc (.cells (rowR.val (k, v)).cells rowR.ty) = W5 at hx5 hb5 ⊢; have hOo := HO2.out.below hb5; have hszT := hb5.size)
        | (refine wl_append_rec rowOk rfl _ _ rfl W4.heap.size _ (oth k L) rfl hOo wr.heap.size 0 1 (k, v) rfl hx5 (by omega) (by omega) ?_; intro g cap W6 hO6 hg6 hat6))
      have hW6 := (bthen' HW.out hb5).grown hg6 (by omega) (fun k hk => (hOo.lt k hk).1)
      have HO6 := Lib.hid hO6
      have HT6 := Lib.hid (HT4.out.below hW6)
      have c0 := HT6.out.box.get (i := 0) rfl
      have c16 := HT6.out.box.get (i := 1) rfl
      have f16 := HT6.out.box.free (i := 1) rfl
      clear c1 hn6 hOo hx5 hb5 hg6 hat6 HT3 HO2 hO6
      by_cases hroom : room < ((oth k L).length : Int) + 1
      · have hR : robs room k x L = (oth k L ++ [(k, v)]).drop 1 := by
          unfold robs
          rw [← HZ.out, ← HVV.out, if_pos (by simp; omega)]
        have hcap : (oth k L).length + 1 ≤ cap := by
          obtain ⟨a, c, e, hc⟩ := HO6.out.capOk
          simp only [Value.slice.injEq] at e
          obtain ⟨_, _, rfl⟩ := e
          simpa using hc
        have HA := Lib.hid (reads_tail (HO6.out.at rowOk) (by simp) hcap)
        have HRR := Lib.hid hR
        have hrl := HT4.out.box.lt (by simp)
        clear hR
        go_upto_region 10 with fail
        generalize (if cap = 1 then some (⟨g, 0, none⟩ : Addr) else some ⟨g, 17, none⟩) = a2 at HA ⊢
        go_wp2_with fail
        go_end0
        have hU : Upd [r] W6 (W6.setCell ⟨r, 1, none⟩ (.slice a2 (oth k L).length (cap - 1))) := (Upd.refl _ _).setCell (by simp) _
        refine ⟨rfl, (Upd.ofBelow _ (bthen' hb4 hW6)).trans hU, _, ⟨HT6.out.box.set 1 _, ?_, HT6.out.low, ?_⟩, ?_⟩
        · rw [HRR.out]
          exact (HA.out.out [r] (by simpa using hrl)).upd hU
        · rw [HRR.out]; simp; omega
        · rw [HRR.out]
          exact (HA.out.mono hb4.size).upd hU (by simpa using HT.out.box.lt (by simp))
      · have hR : robs room k x L = oth k L ++ [(k, v)] := by
          unfold robs
          rw [← HZ.out, ← HVV.out, if_neg (by simp; omega)]
        have HRR := Lib.hid hR
        have hrl := HT4.out.box.lt (by simp)
        clear hR
        go_wp2_with fail
        go_end0
        have hU : Upd [r] W6 (W6.setCell ⟨r, 1, none⟩ (.slice (some ⟨g, 0, none⟩) ((oth k L).length + 1) cap)) := (Upd.refl _ _).setCell (by simp) _
        refine ⟨rfl, (Upd.ofBelow _ (bthen' hb4 hW6)).trans hU, _, ⟨HT6.out.box.set 1 _, ?_, HT6.out.low, ?_⟩, ?_⟩
        · rw [HRR.out]
          exact ((HO6.out.at rowOk).out [r] (by simpa using hrl)).upd hU
        · rw [HRR.out]; simp; omega
        · rw [HRR.out]
          exact ((HO6.out.at rowOk).mono hb4.size).upd hU (by simpa using HT.out.box.lt (by simp))

end Go.Proofs.Yteifjlhkfmoljaa
