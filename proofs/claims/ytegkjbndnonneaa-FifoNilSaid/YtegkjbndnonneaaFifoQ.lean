/- A queue in memory; what reads it. -/
import Derived.Test.YtegkjbndnonneaaFifoRef
set_option linter.unusedVariables false
namespace Go.Proofs.Ytegkjbndnonneaa
open Go.RowKit

/-- A queue's blocks. -/
def qF (p m : Nat) (G : List Lk) : List Nat := p :: m :: blocks G
structure Qu (B : Nat) (w : World) (p m : Nat) (G : List Lk) : Prop where
  box : Four w p (ptr G[0]?) (ptr G[G.length - 1]?) (.map (some m)) (.int .i64 (costL (its G)))
  map : MapF (intK 3) w m (mf G) G.length
  ch : Ch w G (pv G) (nx G)
  nb : (qF p m G).Nodup
  low : ∀ b ∈ qF p m G, B ≤ b ∧ b < w.heap.size
  ids : ((its G).map It.id).Nodup
  good : GoodIt (its G)
namespace Qu
variable {B : Nat} {w w' : World} {p m : Nat} {G : List Lk}
theorem upd {F : List Nat} (h : Qu B w p m G) (hu : Upd F w w') (hF : ∀ b ∈ qF p m G, b ∉ F) : Qu B w' p m G where
  box := h.box.upd hu (hF p (by simp [qF]))
  map := h.map.upd hu (hF m (by simp [qF]))
  ch := h.ch.upd hu (fun g hg => hF g (by simp [qF, hg]))
  nb := h.nb
  low := fun b hb => ⟨(h.low b hb).1, Nat.lt_of_lt_of_le (h.low b hb).2 hu.size⟩
  ids := h.ids
  good := h.good
theorem below (h : Qu B w p m G) (hb : Below w.heap.size w w') : Qu B w' p m G := h.upd (Upd.ofBelow [] hb) (by simp)
theorem nodup (h : Qu B w p m G) : (blocks G).Nodup := by have := h.nb; unfold qF at this; rw [List.nodup_cons, List.nodup_cons] at this; exact this.2.2
theorem ne (h : Qu B w p m G) : p ≠ m := by have := h.nb; unfold qF at this; rw [List.nodup_cons] at this; intro e; exact this.1 (by simp [e])
theorem pNot (h : Qu B w p m G) : p ∉ blocks G := by have := h.nb; unfold qF at this; rw [List.nodup_cons] at this; intro e; exact this.1 (by simp [e])
theorem mNot (h : Qu B w p m G) : m ∉ blocks G := by have := h.nb; unfold qF at this; rw [List.nodup_cons, List.nodup_cons] at this; exact this.2.1
end Qu

theorem its_length (G : List Lk) : (its G).length = G.length := by simp [its]
theorem its_at {G : List Lk} {i g : Nat} {x : It} (h : G[i]? = some (g, x)) : (its G)[i]? = some x := by unfold its; rw [List.getElem?_map, h]; rfl
theorem ixI_none {id : Int} : ∀ (L : List It) (k : Nat), (∀ x ∈ L, x.id ≠ id) → ixI id L k = -1
  | [], _, _ => rfl
  | t :: r, k, h => by
    unfold ixI
    rw [if_neg (h t (by simp))]
    exact ixI_none r (k + 1) (fun x hx => h x (by simp [hx]))
theorem ixI_at {id : Int} : ∀ (L : List It) (k i : Nat) (x : It), (L.map It.id).Nodup → L[i]? = some x → x.id = id → ixI id L k = ((k + i : Nat) : Int)
  | [], _, _, _, _, h, _ => by simp at h
  | t :: r, k, i, x, hn, h, e => by
    rw [List.map_cons, List.nodup_cons] at hn
    unfold ixI
    cases i with
    | zero => cases h; rw [if_pos e]; rfl
    | succ j =>
      rw [if_neg, ixI_at r (k + 1) j x hn.2 h e]
      · congr 1; omega
      · intro e2
        exact hn.1 (by rw [e2, ← e]; exact List.mem_map.2 ⟨x, List.mem_of_getElem? h, rfl⟩)
/-- An operation is in the queue, at one place, or it is not. -/
theorem in_or (G : List Lk) (id : Int) : (∃ (i g : Nat) (x : It), G[i]? = some (g, x) ∧ x.id = id) ∨ (∀ x ∈ its G, x.id ≠ id) := by
  by_cases h : ∃ q ∈ G, q.2.id = id
  · obtain ⟨q, hq, e⟩ := h
    obtain ⟨i, hi⟩ := List.mem_iff_getElem?.1 hq
    exact .inl ⟨i, q.1, q.2, hi, e⟩
  · right
    intro x hx e
    obtain ⟨q, hq, rfl⟩ := List.mem_map.1 hx
    exact h ⟨q, hq, e⟩

theorem keyAt : Try.prog.underlying 48 = some (.map 3 49) := by kernel_rfl
theorem intKey : (intK 3).Ok := intK_ok Try.underlying3
theorem zeroLink (w : World) : (zeroValue 49).run Try.prog w = .ok (.pointer none) w := by
  first | rfl | simp [zeroValue, run_underlying Try.underlying49]
theorem wl_lookup_want {κ : Type} [DecidableEq κ] {K : KeyK κ} (k0 : K.Ok) {ops : Array Oper} {rest : List Oper} {o : Oper} {a : Act} {w : World} {Q : Exit → Act → World → Prop} (hw : Region.wanted o (yielded ops a.tmps) = true) (m x : Operand) (t e : TypeId) (ho : o.op = .lookup t m x false)
    (ht : Try.prog.underlying t = some (.map K.ty e)) {z : Value} (hz : ∀ w, (zeroValue e).run Try.prog w = .ok z w) {b n : Nat} {f : κ → Option Value} (hm : a.eval m = .map (some b)) (h : MapF K w b f n) (k : κ) (hx : a.eval x = K.kv k)
    (hK : wpList Try.prog ops Q rest (a.put o.dst ((f k).getD z)) w) : wpList Try.prog ops Q (o :: rest) a w := by
  refine BigFrame.wpList_want hw fun K' hK' => ?_
  unfold Oper.wp
  simp only [execOp, ho, hm, hx, Sem.run_bind, h.lookup k0 ht (hz w) k, Result.andThen_ok]
  exact hK' _ _ hK

theorem has_none (w : World) (id : Int) : Calls Try.prog 20 #[.pointer none, .int .i64 id] w fun e w' => e = .returned (.bool false) ∧ w = w' := by
  go_enter Try.func20, Try.ntmps20
  go_wp2_with fail
  go_ret
  exact ⟨rfl, rfl⟩
theorem has_yes (w : World) (B p m : Nat) (G : List Lk) (h : Qu B w p m G) (i g : Nat) (x : It) (hx : G[i]? = some (g, x)) :
    Calls Try.prog 20 #[.pointer (some ⟨p, 0, none⟩), .int .i64 x.id] w fun e w' => e = .returned (.bool true) ∧ w = w' := by
  have c2 := h.box.c2
  have hf : (mf G x.id).getD (.pointer none) = .pointer (some ⟨g, 0, none⟩) := by rw [mf_at h.ids hx]; rfl
  have HM := Lib.hid h.map
  clear h hx
  go_enter Try.func20, Try.ntmps20
  go_wp2_with (refine wl_lookup_want intKey rfl _ _ _ _ rfl keyAt zeroLink rfl HM.out x.id rfl ?_; rw [hf])
  go_ret
  exact ⟨rfl, rfl⟩
theorem has_no (w : World) (B p m : Nat) (G : List Lk) (h : Qu B w p m G) (id : Int) (hx : ∀ x ∈ its G, x.id ≠ id) :
    Calls Try.prog 20 #[.pointer (some ⟨p, 0, none⟩), .int .i64 id] w fun e w' => e = .returned (.bool false) ∧ w = w' := by
  have c2 := h.box.c2
  have hf : (mf G id).getD (.pointer none) = .pointer none := by rw [mf_none hx]; rfl
  have HM := Lib.hid h.map
  clear h hx
  go_enter Try.func20, Try.ntmps20
  go_wp2_with (refine wl_lookup_want intKey rfl _ _ _ _ rfl keyAt zeroLink rfl HM.out id rfl ?_; rw [hf])
  go_ret
  exact ⟨rfl, rfl⟩

theorem len_none (w : World) : Calls Try.prog 17 #[.pointer none] w fun e w' => e = .returned (.int .i64 0) ∧ w = w' := by
  go_enter Try.func17, Try.ntmps17
  go_wp2_with fail
  go_ret
  exact ⟨rfl, rfl⟩
theorem cost_none (w : World) : Calls Try.prog 18 #[.pointer none] w fun e w' => e = .returned (.int .i64 0) ∧ w = w' := by
  go_enter Try.func18, Try.ntmps18
  go_wp2_with fail
  go_ret
  exact ⟨rfl, rfl⟩
theorem cost_any (w : World) (B p m : Nat) (G : List Lk) (h : Qu B w p m G) :
    Calls Try.prog 18 #[.pointer (some ⟨p, 0, none⟩)] w fun e w' => e = .returned (.int .i64 (costL (its G))) ∧ w = w' := by
  have c3 := h.box.c3
  clear h
  go_enter Try.func18, Try.ntmps18
  go_wp2_with fail
  go_ret
  exact ⟨rfl, rfl⟩
theorem len_any (w : World) (B p m : Nat) (G : List Lk) (h : Qu B w p m G) (hbig : G.length ≤ 1000000) :
    Calls Try.prog 17 #[.pointer (some ⟨p, 0, none⟩)] w fun e w' => e = .returned (.int .i64 G.length) ∧ w = w' := by
  have c2 := h.box.c2
  obtain ⟨es, clock, hh, hsz⟩ := h.map.size
  have hl := fun ty => run_len_map (P := Try.prog) w 48 ty m es clock (by kernel_rfl) hh
  clear h
  go_enter Try.func17, Try.ntmps17
  go_wp2_with fail
  go_ret
  exact ⟨by rw [← hsz]; rfl, rfl⟩
theorem newQ_any (w : World) : Calls Try.prog 6 #[] w fun e w' => ∃ p m, e = .returned (.pointer (some ⟨p, 0, none⟩)) ∧ Below w.heap.size w w' ∧ Qu w.heap.size w' p m [] := by
  have hmm := @run_makeMap Try.prog
  go_enter Try.func6, Try.ntmps6
  go_wp2_with fail
  go_ret
  have hb1 : Below w.heap.size w (w.alloc (.map #[] 0)) := (Below.refl _ _).alloc (Nat.le_refl _) _
  have hM := MapF.made (intK 3) w
  have hF := Four.new (w.alloc (.map #[] 0)) 51 (.pointer none) (.pointer none) (.map (some w.heap.size)) (.int .i64 0)
  have hb2 : Below (w.alloc (.map #[] 0)).heap.size (w.alloc (.map #[] 0)) ((w.alloc (.map #[] 0)).alloc (.cells #[.pointer none, .pointer none, .map (some w.heap.size), .int .i64 0] 51)) := (Below.refl _ _).alloc (Nat.le_refl _) _
  have hsz : (w.alloc (.map #[] 0)).heap.size = w.heap.size + 1 := by simp
  rw [hsz] at hF
  refine ⟨w.heap.size + 1, w.heap.size, rfl, bthen' hb1 hb2, ⟨hF, (hM.below hb2).congr (fun k => rfl), fun i g x hx => by simp at hx, by simp [qF, blocks], ?_, by simp [its], fun x hx => by simp [its] at hx⟩⟩
  intro b hb
  simp [qF, blocks] at hb ⊢
  omega

end Go.Proofs.Ytegkjbndnonneaa
