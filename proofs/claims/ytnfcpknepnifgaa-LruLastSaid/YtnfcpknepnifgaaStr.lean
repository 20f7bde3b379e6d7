/- Lists of texts; are two the same. -/
import Derived.Test.YtnfcpknepnifgaaRec
import Derived.Test.YtnfcpknepnifgaaMap
set_option linter.unusedVariables false
namespace Go.Proofs.Ytnfcpknepnifgaa
open Go.RowKit

theorem take_eq_of {α : Type} {A B : List α} {k : Nat} (h : A.take k = B.take k) {x y : α} (hx : A[k]? = some x) (hy : B[k]? = some y) (e : x = y) : A.take (k + 1) = B.take (k + 1) := by
  rw [← take_snoc hx, ← take_snoc hy, h, e]
theorem bytes_inj {a b : ByteArray} : a.toList = b.toList ↔ a = b := bytesInj a b
theorem quiet_load_mid {P : Program} {C : World → Prop} {K : Act → Prop} {a : Act} {o : Oper} (ty : TypeId) (x : Operand) (ho : o.op = .load ty x)
    (b off : Nat) (hx : a.eval x = .pointer (some ⟨b, off, none⟩)) (cs : List Value) (d : TypeDesc) (hr : ∀ w, C w → w.rangeAt b off cs)
    (hu : P.underlying ty = some d) (hd : d.isRow = true) (hi : (P.info? ty).map (·.size) = some cs.length)
    (h : K (a.put o.dst (.agg cs.toArray))) : o.quiet P a C K :=
  ⟨.agg cs.toArray, fun w hw => by
    unfold Oper.quietAt execOp
    simp only [ho, hx, Instr.loadAt, Instr.sureAddr, Sem.run_bind, Sem.run_pure, Result.andThen_ok, run_loadVar_mid w b off ty cs d (hr w hw) hu hd hi]
    trivial, h⟩
theorem wl_load_mid {ops : Array Oper} {rest : List Oper} {op : Oper} {a : Act} {w : World} {Q : Exit → Act → World → Prop} (hw : Region.wanted op (yielded ops a.tmps) = true) (ty : TypeId) (x : Operand) (ho : op.op = .load ty x)
    (b o : Nat) (hx : a.eval x = .pointer (some ⟨b, o, none⟩)) (cs : List Value) (d : TypeDesc) (hc : w.rangeAt b o cs)
    (hu : Try.prog.underlying ty = some d) (hd : d.isRow = true) (hi : (Try.prog.info? ty).map (·.size) = some cs.length)
    (h : wpList Try.prog ops Q rest (a.put op.dst (.agg cs.toArray)) w) : wpList Try.prog ops Q (op :: rest) a w :=
  BigFrame.wpList_want hw fun _ hK => wp_load_mid ty x ho b o hx cs d hc hu hd hi (hK _ _ h)

def strR : Rec ByteArray := ⟨9, 30, 1, 16, fun s => .string s, ⟨#[]⟩⟩
theorem strOk : strR.Ok where
  pos := by decide
  small := by decide
  bsmall := by decide
  len := fun _ => rfl
  one := by intro x v hv; simp [Rec.cells, strR, Value.cells] at hv; subst hv; rfl
  slice := Try.underlying30
  info := ⟨_, rfl, rfl, rfl, rfl⟩
  fill := by
    intro y
    rw [show ((Array.range (1 * strR.n)).map (fun x => (strR.val strR.zero).cells[x % (strR.val strR.zero).cells.size]!)) = #[.string ⟨#[]⟩] from by apply Array.toList_inj.1; rw [Array.toList_map, Array.toList_range]; rfl]
    simp [Instr.fill, Value.cells, strR]

set_option maxRecDepth 100000 in
set_option maxHeartbeats 1000000 in
theorem texts_any (w : World) (va vb : Value) (A B : List _) (ha : Reads strR w va A) (hb : Reads strR w vb B) (hbig : A.length ≤ 1000000) :
    Calls Try.prog 11 #[va, vb] w fun e w' => e = .returned (.bool (decide (A = B))) ∧ Below w.heap.size w w' := by
  obtain ⟨aa, capa, rfl⟩ := ha.form
  obtain ⟨ab, capb, rfl⟩ := hb.form
  by_cases hlen : A.length = B.length
  · have hlen2 := hlen.symm
    clear hlen
    have HA := Lib.hid ha
    have HB := Lib.hid hb
    clear ha hb
    go_enter Try.func11, Try.ntmps11
    go_wp2_with fail
    go_loopw [5] (fun i wr => ∃ k : Nat, k ≤ A.length ∧ i = .int .i64 k ∧ Below w.heap.size w wr ∧ A.take k = B.take k) (fun i _ => A.length - (intOf i).toNat)
    case atStart => exact ⟨0, by omega, rfl, Below.refl _ _, by simp⟩
    case round =>
      obtain ⟨k, hk, rfl, hW, hE⟩ := hrel
      have HE := Lib.hid hE
      clear hE
      by_cases hlt : k < A.length
      · obtain ⟨x, hx⟩ : ∃ x, A[k]? = some x := ⟨_, List.getElem?_eq_getElem hlt⟩
        obtain ⟨y, hy⟩ : ∃ y, B[k]? = some y := ⟨_, List.getElem?_eq_getElem (by omega)⟩
        obtain ⟨b1, o1, rfl, r1⟩ := (HA.out.below hW).at hx
        obtain ⟨b2, o2, rfl, r2⟩ := (HB.out.below hW).at hy
        have HX := Lib.hid hx
        have HY := Lib.hid hy
        have d1 := fun (z : Later wr) => z.cell (show wr.cell? ⟨b1, o1 + k, none⟩ = some (strR.val x) from by have := r1 0 _ rfl; simpa [strR] using this)
        have d2 := fun (z : Later wr) => z.cell (show wr.cell? ⟨b2, o2 + k, none⟩ = some (strR.val y) from by have := r2 0 _ rfl; simpa [strR] using this)
        simp only [strR] at d1 d2
        clear hx hy r1 r2
        go_wp2_with fail
        refine wp_region_later (by kernel_rfl) (by kernel_rfl) (Below.refl _ _) ?_
        repeat (first
          | go_big_quiet_skip
          | (go_big_quiet_want; first
            | (go_big_quiet_op; go_big_quiet_on)))
        refine wpQuiet_nil ?_
        rintro ⟨W2, hb2⟩
        dsimp only
        clear d1 d2
        by_cases hxy : x = y
        · have HE2 := Lib.hid (take_eq_of HE.out HX.out HY.out hxy)
          have hxyb : (x.toList == y.toList) = true := by rw [beq_iff_eq, bytes_inj]; exact hxy
          clear HX HY HE
          clear hxy
          rw [hxyb]
          go_wp2_with fail
          go_roundw
          case rel => exact ⟨k + 1, by omega, by go_num, bthen' hW hb2, HE2.out⟩
          case measure => simp [intOf]; omega
        · have hne := Lib.hid (show decide (A = B) = false from decide_eq_false (fun e => hxy (by
            have h1 := HX.out
            rw [e, HY.out] at h1
            exact (Option.some.inj h1).symm)))
          have hxyb : (x.toList == y.toList) = false := by rw [beq_eq_false_iff_ne, Ne, bytes_inj]; exact hxy
          clear hxy HX HY HE
          rw [hxyb]
          go_wp2_with fail
          go_ret
          exact ⟨by rw [hne.out]; rfl, bthen' hW hb2⟩
      · obtain rfl : k = A.length := by omega
        have hAB := Lib.hid (show decide (A = B) = true from decide_eq_true (by have := HE.out; rw [List.take_length, ← hlen2, List.take_length] at this; exact this))
        clear HE
        go_wp2_with fail
        go_ret
        exact ⟨by rw [hAB.out]; rfl, hW⟩
  · have hne := Lib.hid (show decide (A = B) = false from decide_eq_false (fun e => hlen (by rw [e])))
    clear ha hb
    have hlb : (((A.length : Nat) : Int) != ((B.length : Nat) : Int)) = true := by simp; omega
    clear hlen
    go_enter Try.func11, Try.ntmps11
    go_wp2_with fail
    go_ret
    exact ⟨by rw [hne.out]; rfl, Below.refl _ _⟩


theorem Owns.outF {α : Type} {R : Rec α} (k : R.Ok) {B : Nat} {w : World} {v : Value} {L : List α} (h : Owns R B w v L) (F : List Nat) (hF : ∀ g, v.ownBlock = some g → g ∉ F) : ReadsOut R F w v L := by
  rcases h.nilOf with ⟨rfl, rfl⟩ | ⟨g, cap, rfl, hg, hgl⟩
  · exact .inl ⟨rfl, none, 0, rfl⟩
  · rcases h.lts k with ⟨h0, a, c, e⟩ | ⟨b, off, c, e, hr⟩
    · exact .inl ⟨h0, a, c, by rw [← e]⟩
    · have e2 := e
      simp only [Value.slice.injEq] at e2
      obtain ⟨e3, _, _⟩ := e2
      have e4 : g = b := by simpa using congrArg (fun (o : Option Addr) => o.map (·.block)) e3
      subst e4
      exact .inr ⟨g, off, c, e, hF g rfl, hr⟩
theorem Owns.capOk {α : Type} {R : Rec α} {B : Nat} {w : World} {v : Value} {L : List α} (h : Owns R B w v L) : ∃ a cap, v = .slice a L.length cap ∧ L.length ≤ cap := by
  rcases h.2 with ⟨rfl, h0⟩ | ⟨g, cap, cur, rfl, hb, hg, hn, _⟩
  · exact ⟨none, 0, by rw [h0], by omega⟩
  · exact ⟨_, cap, rfl, hn⟩
theorem Owns.formS {α : Type} {R : Rec α} {B : Nat} {w : World} {v : Value} {L : List α} {x : α} (h : Owns R B w v (L ++ [x])) : ∃ a cap, v = .slice a (L.length + 1) cap := by
  obtain ⟨a, cap, e⟩ := h.form
  exact ⟨a, cap, by rw [e]; simp⟩
theorem ReadsOut.sub {α : Type} {R : Rec α} {F F' : List Nat} {w : World} {v : Value} {L : List α} (h : ReadsOut R F w v L) (hF : ∀ i ∈ F', i ∈ F) : ReadsOut R F' w v L := by
  rcases h with h | ⟨b, off, cap, hv, hb, hr⟩
  · exact .inl h
  · exact .inr ⟨b, off, cap, hv, fun hin => hb (hF b hin), hr⟩
def sliceLen : Value → Nat
  | .slice _ n _ => n
  | _ => 0

end Go.Proofs.Ytnfcpknepnifgaa
