/- All invocations, by their numbers. -/
import Derived.Test.YtogajmbkjojdhaaInvMem
import Derived.Test.YtogajmbkjojdhaaShelf
set_option linter.unusedVariables false
set_option linter.unusedSimpArgs false
set_option maxRecDepth 100000
namespace Go.Proofs.Ytogajmbkjojdhaa
open Go.RowKit

theorem sortsA (m : Nat) : AnyZI.SortsIn Try.prog Try.sortedA_ren Fence.wide m :=
  ⟨fun blk off cap ss W hH hblk hsz => callsIn_wide.2 (AnyM.slices_Sort_int Try.sortA blk off cap ss W hH hblk hsz),
   fun p cap W => callsIn_wide.2 (AnyM.slices_Sort_int_none Try.sortA p cap W)⟩
theorem keys_any (b : Nat) (W : World) : Calls Try.prog 29 #[.map (some b)] W fun e w' =>
    e = .returned (.func (.func 52) #[] #[.pointer (some ⟨W.heap.size, 0, none⟩)]) ∧ w' = W.alloc (.cells #[.map (some b)] 62) :=
  (callsIn_wide (n := 5)).1 (AnyZI.keys_in Try.keysA Fence.wide 5 trivial rfl (some b) W)
theorem sorted_perm {ss ks : List Int} (hp : ss.Perm ks) (hs : ks.Pairwise fun x y => x < y) : ss.mergeSort leI = ks := by
  have tr : ∀ a b c : Int, leI a b = true → leI b c = true → leI a c = true := fun a b c h1 h2 => by simp only [leI, decide_eq_true_eq] at *; exact Int.le_trans h1 h2
  have tot : ∀ a b : Int, (leI a b || leI b a) = true := fun a b => by simp only [leI, Bool.or_eq_true, decide_eq_true_eq]; exact Int.le_total a b
  refine List.Perm.eq_of_pairwise (le := fun a b => leI a b = true) (fun a b _ _ h1 h2 => ?_) (List.pairwise_mergeSort tr tot ss) (hs.imp fun h => by simp only [leI, decide_eq_true_eq]; omega) ((List.mergeSort_perm ss leI).trans hp)
  simp only [leI, decide_eq_true_eq] at h1 h2
  omega
/-- The keys of the map, sorted. -/
theorem sorted_any {w : World} {b : Nat} {L : List Iv} {D : DataW Value} (h : OwnsI w b (noF L) L.length D) (hasc : L.Pairwise fun x y => x.no < y.no) (hL : L.length ≤ 100000) (hb : b < w.heap.size) :
    Calls Try.prog 28 #[.func (.func 52) #[] #[.pointer (some ⟨w.heap.size, 0, none⟩)]] (w.alloc (.cells #[.map (some b)] 62)) fun e w' =>
      ∃ a c, e = .returned (.slice a L.length c) ∧ Owns intR (w.alloc (.cells #[.map (some b)] 62)).heap.size w' (.slice a L.length c) (L.map Iv.no) ∧ Below (w.alloc (.cells #[.map (some b)] 62)).heap.size (w.alloc (.cells #[.map (some b)] 62)) w' := by
  have hmax : Maps.size D ≤ maxLen := by rw [h.size]; simp [maxLen]; omega
  have hbytes : Maps.size D * 8 ≤ 140737488355328 := by rw [h.size]; omega
  have hown := h.own
  have hseq : SeqGives Fence.wide 2 Try.prog 52 #[.pointer (some ⟨w.heap.size, 0, none⟩)] encZ (fun ss => ss.Perm (intKeys D)) (Maps.size D) (w.alloc (.cells #[.map (some b)] 62)) :=
    AnyZI.keys_gives (ρ := Try.keysA_ren) { Try.keysA with } Fence.wide _ trivial rfl (by omega) w.heap.size b L.length D _ (by simp) (by simp) (by
      obtain ⟨es, clock, hb2, Ft, hs, hD⟩ := hown
      exact ⟨es, clock, (Below.heap_alloc _ _ b hb).trans hb2, Ft, hs, hD⟩)
  have cS := AnyZI.sorted_in Try.sortedA Fence.wide 5 trivial trivial trivial trivial rfl (by omega) (sortsA _) (enters_of Try.func51 (by kernel_rfl) rfl) 52 #[.pointer (some ⟨w.heap.size, 0, none⟩)] trivial (enters_of Try.func52 (by kernel_rfl) rfl) _ _ hmax hbytes _ hseq
  refine (callsIn_wide.1 cS).mono ?_
  rintro e w' ⟨v, ss, rfl, hS, hrow, hnil, hb⟩
  have hp := hS.trans (iv_perm h hasc)
  have hsort := sorted_perm hp (List.pairwise_map.2 hasc)
  have hlen : ss.length = (L.map Iv.no).length := hp.length_eq
  have e1 : (L.map Iv.no).flatMap intR.cells = (L.map Iv.no).map encZ := by
    generalize L.map Iv.no = ks
    induction ks with
    | nil => rfl
    | cons k ks ih => rw [List.flatMap_cons, ih, List.map_cons]; rfl
  have hrow2 := hrow
  rw [show (ss.mergeSort (fun x y => decide (x ≤ y))) = L.map Iv.no from hsort] at hrow2
  have hO : Owns intR (w.alloc (.cells #[.map (some b)] 62)).heap.size w' v (L.map Iv.no) := by
    unfold Owns
    rw [e1, ← hlen]
    exact hrow2
  obtain ⟨a, c, rfl⟩ := hO.form
  have hlk : (L.map Iv.no).length = L.length := by simp
  rw [hlk] at hO ⊢
  exact ⟨a, c, rfl, hO, hb⟩
def lenI : Value → Nat | .int _ n => n.toNat | _ => 0
def GivesI (w : World) (L : List Iv) (e : Ending) (w' : World) : Prop := ∃ v, e = .returned v ∧ Below w.heap.size w w' ∧ Owns ivR w.heap.size w' v L
theorem int_cell {w : World} {b off k : Nat} {x : Int} (h : w.rangeAt b (off + k * intR.n) (intR.cells x)) : w.cell? ⟨b, off + k, none⟩ = some (.int .i64 x) := by have := h 0 _ rfl; simpa [intR] using this
set_option maxHeartbeats 4000000 in
theorem all_any {w : World} {v nm lm : Nat} {c : Cfg} {last last' : Int} {L : List Iv} (h : InvM w v nm lm c last L) (ho : InvOk c last' L) (hL : L.length ≤ 100000) :
    Calls Try.prog 9 #[.pointer (some ⟨v, 0, none⟩)] w (GivesI w L) := by
  obtain ⟨D, hD⟩ := h.ml.ownsI (by simp [maxLen]; omega) (fun k hk => by
    unfold noF at hk
    cases hf : fNo L k with
    | none => rw [hf] at hk; cases hk
    | some x =>
      obtain ⟨hx, rfl⟩ := fNo_mem hf
      have h1 := ho.low x hx
      have h2 := ho.high x hx
      have h3 := ho.last.2
      exact wfI (by omega))
  have c21 := h.cel.get (i := 21) rfl
  have hlm := h.ml.lt
  have KS := Lib.hid (sorted_any hD ho.asc hL hlm)
  have HM := Lib.hid h
  have HA := Lib.hid ho.asc
  have hb1 : Below w.heap.size w (w.alloc (.cells #[.map (some lm)] 62)) := (Below.refl _ _).alloc (Nat.le_refl _) _
  have HB1 := Lib.hid hb1
  clear h ho hD hb1
  go_enter Try.func9, Try.ntmps9
  go_upto_block 0 with (first
    | (go_at_call 28; refine KS.out.mono ?_; rintro e W2 ⟨a2, c2, rfl, hO2, hb2⟩)
    | (go_at_call 29; refine (keys_any _ _).mono ?_; rintro e w' ⟨rfl, rfl⟩))
  have HB2 := Lib.hid (bthen' HB1.out hb2)
  have HK := Lib.hid (hO2.lts intOk)
  clear hO2 hb2 KS c21
  go_wp2_with fail
  go_loopw [3, 5, 15] (fun u _ i wr => ∃ k : Nat, k ≤ L.length ∧ i = .int .i64 k ∧ Below W2.heap.size W2 wr ∧ Owns ivR W2.heap.size wr u (L.take k)) (fun _ _ i _ => L.length - (lenI i))
  case atStart => exact ⟨0, by omega, rfl, Below.refl _ _, Owns.nil _ _ _⟩
  case round =>
    obtain ⟨k, hk, rfl, hW, hO⟩ := hrel
    have HO := Lib.hid hO
    have hwr := hW.size
    obtain ⟨a5, c5, hf⟩ := hO.form
    have hlen : (L.take k).length = k := by rw [List.length_take]; omega
    rw [hlen] at hf
    subst hf
    clear hO
    by_cases hlt : k < L.length
    · obtain ⟨x, hx⟩ : ∃ x, L[k]? = some x := ⟨_, List.getElem?_eq_getElem hlt⟩
      have HMW := Lib.hid (HM.out.below (bthen' HB2.out hW))
      obtain ⟨b, off, e, hr⟩ := (HK.out.below hW).at (k := k) (x := x.no) (by rw [List.getElem?_map, hx]; rfl)
      have e2 : a2 = some ⟨b, off, none⟩ := by simpa using e
      subst e2
      have hc := int_cell hr
      have c21 := HMW.out.cel.get (i := 21) rfl
      have HML := Lib.hid HMW.out.ml.toF
      have hmx := Lib.hid (show noF L x.no = some (ivR.val x) from by unfold noF; rw [fNo_of HA.out (List.mem_of_getElem? hx)]; rfl)
      have T2 := Lib.hid (take_snoc hx)
      clear hr hx e
      go_wp2_with (first
        | (refine wl_lookup (intK_ok Try.underlying3) rfl _ _ 62 32 rfl Try.underlying62 (z := ivR.val zeroIv) zeroInv rfl HML.out x.no rfl ?_; rw [hmx.out]; simp only [Option.getD_some])
        | (refine wl_build_rec ivOk rfl _ rfl x rfl ?_; have hx5 := built_range (R := ivR) (w := wr) x; have hb5 : Below wr.heap.size wr (wr.alloc (.cells (ivR.val x).cells ivR.ty)) := (Below.refl _ _).alloc (Nat.le_refl _) _; generalize wr.alloc (.cells (ivR.val x).cells ivR.ty) = W5 at hx5 hb5 ⊢; have hOo := HO.out.below hb5; have hszT := hb5.size)
        | (refine wl_append_rec ivOk rfl _ _ rfl W2.heap.size _ (L.take k) rfl hOo wr.heap.size 0 1 x rfl hx5 (by omega) (by omega) ?_; intro g6 cap W6 hO6 hg6 hat6; have hW6 := (bthen' hW hb5).grown hg6 (by omega) (fun k hk => (hOo.lt k hk).1)))
      rw [T2.out, hlen] at hO6
      go_roundw
      case rel => exact ⟨k + 1, by omega, by go_num, hW6, hO6⟩
      case measure => simp [lenI]; omega
    · obtain rfl : k = L.length := by omega
      rw [List.take_length] at HO
      go_wp2_with fail
      go_ret
      exact ⟨_, rfl, bthen' HB2.out hW, HO.out.mono HB2.out.size⟩
end Go.Proofs.Ytogajmbkjojdhaa
