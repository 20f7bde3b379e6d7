/- Lists of records: small laws. -/
import Derived.Test.YtogajmbkjojdhaaRec
import Derived.Test.YtogajmbkjojdhaaMap
set_option linter.unusedVariables false
namespace Go.Proofs.Ytogajmbkjojdhaa
open Go.RowKit

theorem take_eq_of {α : Type} {A B : List α} {k : Nat} (h : A.take k = B.take k) {x y : α} (hx : A[k]? = some x) (hy : B[k]? = some y) (e : x = y) : A.take (k + 1) = B.take (k + 1) := by
  rw [← take_snoc hx, ← take_snoc hy, h, e]
theorem bytes_inj {a b : ByteArray} : a.toList = b.toList ↔ a = b := bytesInj a b
theorem quiet_load_mid {P : Program} {C : World → Prop} {K : Act → Prop} {a : Act} {o : Oper} (ty : TypeId) (x : Operand) (ho : o.op = .load ty x)
    (b off : Nat) (hx : a.eval x = .pointer (some ⟨b, off, none⟩)) (cs : List Value) (d : TypeDesc) (hr : ∀ w, C w → w.rangeAt b off cs)
    (hu : P.underlying ty = some d) (hd : d.isRow = true) (hi : (P.info? ty).map (·.size) = some cs.length)
    (h : K (a.put o.dst (.agg cs.toArray))) : o.quiet P a C K :=
  ⟨.agg cs.toArray, fun w hw => by
    unfold Oper.quietAt execOp
    simp only [ho, hx, Instr.loadAt, Instr.sureAddr, Sem.run_bind, Sem.run_pure, Result.andThen_ok, run_loadVar_mid w b off ty cs d (hr w hw) hu hd hi]
    trivial, h⟩
theorem wl_load_mid {ops : Array Oper} {rest : List Oper} {op : Oper} {a : Act} {w : World} {Q : Exit → Act → World → Prop} (hw : Region.wanted op (yielded ops a.tmps) = true) (ty : TypeId) (x : Operand) (ho : op.op = .load ty x)
    (b o : Nat) (hx : a.eval x = .pointer (some ⟨b, o, none⟩)) (cs : List Value) (d : TypeDesc) (hc : w.rangeAt b o cs)
    (hu : Try.prog.underlying ty = some d) (hd : d.isRow = true) (hi : (Try.prog.info? ty).map (·.size) = some cs.length)
    (h : wpList Try.prog ops Q rest (a.put op.dst (.agg cs.toArray)) w) : wpList Try.prog ops Q (op :: rest) a w :=
  BigFrame.wpList_want hw fun _ hK => wp_load_mid ty x ho b o hx cs d hc hu hd hi (hK _ _ h)

theorem Owns.outF {α : Type} {R : Rec α} (k : R.Ok) {B : Nat} {w : World} {v : Value} {L : List α} (h : Owns R B w v L) (F : List Nat) (hF : ∀ g, v.ownBlock = some g → g ∉ F) : ReadsOut R F w v L := by
  rcases h.nilOf with ⟨rfl, rfl⟩ | ⟨g, cap, rfl, hg, hgl⟩
  · exact .inl ⟨rfl, none, 0, rfl⟩
  · rcases h.lts k with ⟨h0, a, c, e⟩ | ⟨b, off, c, e, hr⟩
    · exact .inl ⟨h0, a, c, by rw [← e]⟩
    · have e2 := e
      simp only [Value.slice.injEq] at e2
      obtain ⟨e3, _, _⟩ := e2
      have e4 : g = b := by simpa using congrArg (fun (o : Option Addr) => o.map (·.block)) e3
      subst e4
      exact .inr ⟨g, off, c, e, hF g rfl, hr⟩
theorem Owns.capOk {α : Type} {R : Rec α} {B : Nat} {w : World} {v : Value} {L : List α} (h : Owns R B w v L) : ∃ a cap, v = .slice a L.length cap ∧ L.length ≤ cap := by
  rcases h.2 with ⟨rfl, h0⟩ | ⟨g, cap, cur, rfl, hb, hg, hn, _⟩
  · exact ⟨none, 0, by rw [h0], by omega⟩
  · exact ⟨_, cap, rfl, hn⟩
theorem Owns.formS {α : Type} {R : Rec α} {B : Nat} {w : World} {v : Value} {L : List α} {x : α} (h : Owns R B w v (L ++ [x])) : ∃ a cap, v = .slice a (L.length + 1) cap := by
  obtain ⟨a, cap, e⟩ := h.form
  exact ⟨a, cap, by rw [e]; simp⟩
theorem ReadsOut.sub {α : Type} {R : Rec α} {F F' : List Nat} {w : World} {v : Value} {L : List α} (h : ReadsOut R F w v L) (hF : ∀ i ∈ F', i ∈ F) : ReadsOut R F' w v L := by
  rcases h with h | ⟨b, off, cap, hv, hb, hr⟩
  · exact .inl h
  · exact .inr ⟨b, off, cap, hv, fun hin => hb (hF b hin), hr⟩
def sliceLen : Value → Nat
  | .slice _ n _ => n
  | _ => 0

theorem two_boxes {w w1 : World} {A B : Obj} (hb : Below ((w.alloc A).alloc B).heap.size ((w.alloc A).alloc B) w1) : w1.heap[w.heap.size]? = some A ∧ w1.heap[w.heap.size + 1]? = some B ∧ Below w.heap.size w w1 ∧ w.heap.size + 2 ≤ w1.heap.size := by
  refine ⟨?_, ?_, ?_, ?_⟩
  · rw [hb.block _ (by simp; omega), heap_alloc2_old]
  · rw [hb.block _ (by simp), heap_alloc2_new]
  · exact (((Below.refl _ _).alloc (Nat.le_refl _) _).alloc (by simp) _).trans (hb.mono (by simp; omega))
  · have := hb.size; simp at this; omega
theorem kept {w1 w2 : World} {g : Nat} {o : Obj} (hb : Below w1.heap.size w1 w2) (hg : w1.heap[g]? = some o) : w2.heap[g]? = some o := by
  have : g < w1.heap.size := lt_of_block hg
  rw [hb.block _ this, hg]
end Go.Proofs.Ytogajmbkjojdhaa
