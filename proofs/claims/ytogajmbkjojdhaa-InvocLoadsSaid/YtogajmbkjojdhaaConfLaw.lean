/- Configurations: records, and the plain law. -/
import Derived.Test.YtogajmbkjojdhaaRec
import Derived.Test.YtogajmbkjojdhaaMap
import Derived.Test.YtogajmbkjojdhaaTextName
set_option linter.unusedVariables false
set_option maxRecDepth 100000
namespace Go.Proofs.Ytogajmbkjojdhaa
open Go.RowKit

/-- A number in one cell. -/
def intR : Rec Int := ⟨3, 23, 1, 8, fun n => .int .i64 n, 0⟩
theorem intOk : intR.Ok where
  pos := by decide
  small := by decide
  bsmall := by decide
  len := fun _ => rfl
  one := by intro x v hv; simp [Rec.cells, intR, Value.cells] at hv; subst hv; rfl
  slice := Try.underlying23
  info := ⟨_, rfl, rfl, rfl, rfl⟩
  fill := by
    intro y
    rw [show ((Array.range (1 * intR.n)).map (fun x => (intR.val intR.zero).cells[x % (intR.val intR.zero).cells.size]!)) = #[.int .i64 0] from by apply Array.toList_inj.1; rw [Array.toList_map, Array.toList_range]; rfl]
    simp [Instr.fill, Value.cells, intR]

/-- A tenant. -/
structure Ten where
  name : ByteArray
  wt : Int
  q : Int
def tenR : Rec Ten := ⟨46, 22, 3, 32, fun t => .agg #[.string t.name, .int .i64 t.wt, .int .i64 t.q], ⟨⟨#[]⟩, 0, 0⟩⟩
theorem tenOk : tenR.Ok where
  pos := by decide
  small := by decide
  bsmall := by decide
  len := fun _ => rfl
  one := by
    intro x v hv
    simp [Rec.cells, tenR, Value.cells] at hv
    rcases hv with rfl | rfl | rfl <;> rfl
  slice := Try.underlying22
  info := ⟨_, rfl, rfl, rfl, rfl⟩
  fill := by
    intro y
    rw [show ((Array.range (1 * tenR.n)).map (fun x => (tenR.val tenR.zero).cells[x % (tenR.val tenR.zero).cells.size]!)) = #[.string ⟨#[]⟩, .int .i64 0, .int .i64 0] from by apply Array.toList_inj.1; rw [Array.toList_map, Array.toList_range]; rfl]
    simp [Instr.fill, Value.cells, tenR]

/-- A number, and where it must lie. -/
structure Sp where
  n : Int
  lo : Int
  hi : Int
def spanR : Rec Sp := ⟨85, 83, 3, 24, fun s => .agg #[.int .i64 s.n, .int .i64 s.lo, .int .i64 s.hi], ⟨0, 0, 0⟩⟩
theorem spanOk : spanR.Ok where
  pos := by decide
  small := by decide
  bsmall := by decide
  len := fun _ => rfl
  one := by
    intro x v hv
    simp [Rec.cells, spanR, Value.cells] at hv
    rcases hv with rfl | rfl | rfl <;> rfl
  slice := Try.underlying83
  info := ⟨_, rfl, rfl, rfl, rfl⟩
  fill := by
    intro y
    rw [show ((Array.range (1 * spanR.n)).map (fun x => (spanR.val spanR.zero).cells[x % (spanR.val spanR.zero).cells.size]!)) = #[.int .i64 0, .int .i64 0, .int .i64 0] from by apply Array.toList_inj.1; rw [Array.toList_map, Array.toList_range]; rfl]
    simp [Instr.fill, Value.cells, spanR]

/-! ### the plain law -/
def inB (n a b : Int) : Bool := decide (a ≤ n) && decide (n ≤ b)
theorem inB_true {n a b : Int} : inB n a b = true ↔ a ≤ n ∧ n ≤ b := by simp [inB]
theorem inB_false {n a b : Int} : inB n a b = false ↔ ¬ (a ≤ n ∧ n ≤ b) := by rw [← inB_true]; simp
def Sp.ok (s : Sp) : Bool := inB s.n s.lo s.hi

/-- What is wrong with one tenant alone. -/
def tenv (t : Ten) : Int := if nameB t.name.data.toList = false then 5 else if inB t.wt 1 16 = true ∧ inB t.q 1 256 = true then 0 else 1
def inL (x : ByteArray) (acc : List ByteArray) : Bool := acc.any fun a => decide (a = x)
theorem inL_true {x : ByteArray} {acc : List ByteArray} : inL x acc = true ↔ x ∈ acc := by
  unfold inL
  rw [List.any_eq_true]
  exact ⟨fun ⟨a, h, e⟩ => by rw [← of_decide_eq_true e]; exact h, fun h => ⟨x, h, decide_eq_true rfl⟩⟩
def tensF : List ByteArray → List Ten → Int
  | _, [] => 0
  | acc, t :: r => if tenv t ≠ 0 then tenv t else if inL t.name acc = true then 8 else tensF (acc ++ [t.name]) r
def tensv (T : List Ten) : Int := if 1 ≤ T.length ∧ T.length ≤ 6 then tensF [] T else 9
def risesF : Int → List Int → Bool
  | _, [] => true
  | last, n :: r => decide (last < n) && decide (n ≤ 1048576) && risesF n r

/-- A configuration. -/
structure Cfg where
  tv : Value
  lv : Value
  T : List Ten
  L : List Int
  quantum : Int
  cost : Int
  cap : Int
  invs : Int
  weight : Int
  pools : Int
  retries : Int
  preempts : Int
  base : Int
  most : Int
  lease : Int
  dead : Int
  keep : Int
  keys : Int
  percent : Int
  workers : Int
  watch : Int
def Cfg.cells (c : Cfg) : List Value := [c.tv, c.lv, .int .i64 c.quantum, .int .i64 c.cost, .int .i64 c.cap, .int .i64 c.invs, .int .i64 c.weight, .int .i64 c.pools, .int .i64 c.retries, .int .i64 c.preempts, .int .i64 c.base, .int .i64 c.most, .int .i64 c.lease, .int .i64 c.dead, .int .i64 c.keep, .int .i64 c.keys, .int .i64 c.percent, .int .i64 c.workers, .int .i64 c.watch]
def Cfg.spans (c : Cfg) : List Sp := [⟨c.quantum, 1, 64⟩, ⟨c.cost, 1, 64⟩, ⟨c.cap, 1, 32⟩, ⟨c.invs, 1, 8⟩, ⟨c.weight, 1, 16⟩, ⟨c.pools, 1, 8⟩, ⟨c.retries, 0, 5⟩, ⟨c.preempts, 0, 5⟩, ⟨c.base, 1, 1048576⟩, ⟨c.most, c.base, 1048576⟩, ⟨c.lease, 1, 1048576⟩, ⟨c.dead, 1, 32⟩, ⟨c.keep, 1, 64⟩, ⟨c.keys, 1, 32⟩, ⟨c.percent, 1, 100⟩, ⟨c.workers, 1, 16⟩, ⟨c.watch, 0, 16⟩]
/-- Its slices lie in memory. -/
structure Cfg.In (c : Cfg) (w : World) : Prop where
  t : Reads tenR w c.tv c.T
  l : Reads intR w c.lv c.L
  names : ∀ x ∈ c.T, x.name.size ≤ 9223372036854775807
theorem Cfg.In.below {c : Cfg} {w w' : World} (h : c.In w) (hb : Below w.heap.size w w') : c.In w' := ⟨h.t.below hb, h.l.below hb, h.names⟩
def checkv (c : Cfg) : Int := if tensv c.T ≠ 0 then tensv c.T else if 3 < c.L.length then 9 else if risesF 0 c.L = true ∧ c.spans.all Sp.ok = true then 0 else 1

theorem cfgRow (c : Cfg) : (Try.prog.info? 25).map (·.size) = some c.cells.length := by
  show _ = some 19
  kernel_rfl
theorem cfgRow' (c : Cfg) : (Try.prog.info? 25).map (·.size) = some c.cells.toArray.size := cfgRow c

/-! ### rising limits -/
/-- What is left to be asked of limits. -/
def RiseRest (L : List Int) (k : Nat) (last : Int) : Prop := risesF 0 L = risesF last (L.drop k)
theorem RiseRest.start (L : List Int) : RiseRest L 0 0 := rfl
theorem drop_cons {α : Type} {L : List α} {k : Nat} {x : α} (hx : L[k]? = some x) : L.drop k = x :: L.drop (k + 1) := by
  have hk : k < L.length := (List.getElem?_eq_some_iff.1 hx).1
  rw [List.drop_eq_getElem_cons hk]
  rw [List.getElem?_eq_getElem hk] at hx
  rw [Option.some.inj hx]
theorem RiseRest.step {L : List Int} {k : Nat} {last x : Int} (h : RiseRest L k last) (hx : L[k]? = some x) (h1 : last < x) (h2 : x ≤ 1048576) : RiseRest L (k + 1) x := by
  unfold RiseRest at *
  rw [h, drop_cons hx, risesF]; simp [h1, h2]
theorem RiseRest.bad {L : List Int} {k : Nat} {last x : Int} (h : RiseRest L k last) (hx : L[k]? = some x) (h1 : ¬ (last < x ∧ x ≤ 1048576)) : risesF 0 L = false := by
  unfold RiseRest at *
  rw [h, drop_cons hx, risesF]
  by_cases h2 : last < x
  · have : ¬ x ≤ 1048576 := fun h3 => h1 ⟨h2, h3⟩
    simp [this]
  · simp [h2]
theorem RiseRest.done {L : List Int} {last : Int} (h : RiseRest L L.length last) : risesF 0 L = true := by
  unfold RiseRest at h
  rw [h]; simp [risesF]

/-! ### tenants -/
/-- What is left to be asked of tenants. -/
def TensRest (T : List Ten) (k : Nat) : Prop := tensF [] T = tensF ((T.take k).map Ten.name) (T.drop k)
theorem TensRest.start (T : List Ten) : TensRest T 0 := rfl
theorem TensRest.step {T : List Ten} {k : Nat} {x : Ten} (h : TensRest T k) (hx : T[k]? = some x) (h0 : tenv x = 0) (h1 : x.name ∉ (T.take k).map Ten.name) : TensRest T (k + 1) := by
  unfold TensRest at *
  rw [h, drop_cons hx, tensF, if_neg (by simp [h0]), if_neg (fun h2 => h1 (inL_true.1 h2)), ← take_snoc hx]; simp
theorem TensRest.bad {T : List Ten} {k : Nat} {x : Ten} (h : TensRest T k) (hx : T[k]? = some x) (h0 : tenv x ≠ 0) : tensF [] T = tenv x := by
  unfold TensRest at *
  rw [h, drop_cons hx, tensF, if_pos h0]
theorem TensRest.there {T : List Ten} {k : Nat} {x : Ten} (h : TensRest T k) (hx : T[k]? = some x) (h0 : tenv x = 0) (h1 : x.name ∈ (T.take k).map Ten.name) : tensF [] T = 8 := by
  unfold TensRest at *
  rw [h, drop_cons hx, tensF, if_neg (by simp [h0]), if_pos (inL_true.2 h1)]
theorem TensRest.done {T : List Ten} (h : TensRest T T.length) : tensF [] T = 0 := by
  unfold TensRest at h
  rw [h]; simp [tensF]

end Go.Proofs.Ytogajmbkjojdhaa
