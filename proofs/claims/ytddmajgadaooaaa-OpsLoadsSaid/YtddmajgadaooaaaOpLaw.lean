/- Operations as records; actions, flights; when two of them are the same. (Printed by genoplaw.py.) -/
import Derived.Test.YtddmajgadaooaaaRecM
import Derived.Laws.StructEq
set_option linter.unusedVariables false
namespace Go.Proofs.Ytddmajgadaooaaa
open Go.RowKit

structure OpV where
  id : Int
  ten : Int
  inv : Int
  key : ByteArray
  cmd : ByteArray
  need : ByteArray
  cost : Int
  cls : Int
  st : Int
  a1 : Int
  a2 : Int
  a3 : Int
  code : Int
  ep : Int
  wk : Int
  t1 : Int
  t2 : Int
  t3 : Int
deriving DecidableEq
def OpV.cells (x : OpV) : List Value := [.int .i64 x.id, .int .i64 x.ten, .int .i64 x.inv, .string x.key, .string x.cmd, .string x.need, .int .i64 x.cost, .int .i64 x.cls, .int .i64 x.st, .int .i64 x.a1, .int .i64 x.a2, .int .i64 x.a3, .int .i64 x.code, .int .i64 x.ep, .int .i64 x.wk, .int .u64 x.t1, .int .u64 x.t2, .int .u64 x.t3]
def zeroOp : OpV := ⟨0, 0, 0, ⟨#[]⟩, ⟨#[]⟩, ⟨#[]⟩, 0, 0, 0, 0, 0, 0, 0, 0, 0, 0, 0, 0⟩
def opR : Rec OpV := ⟨30, 34, 18, 168, fun x => .agg x.cells.toArray, zeroOp⟩
theorem opR_cells (x : OpV) : opR.cells x = x.cells := rfl
set_option maxRecDepth 100000 in
theorem opOk : opR.Ok where
  pos := by decide
  small := by decide
  bsmall := by decide
  len := fun _ => rfl
  one := by
    intro x v hv
    rw [opR_cells] at hv
    simp only [OpV.cells, List.mem_cons, List.not_mem_nil, or_false] at hv
    rcases hv with rfl | rfl | rfl | rfl | rfl | rfl | rfl | rfl | rfl | rfl | rfl | rfl | rfl | rfl | rfl | rfl | rfl | rfl <;> rfl
  slice := Try.underlying34
  info := ⟨_, rfl, rfl, rfl, rfl⟩
  fill := by
    intro y
    rw [show ((Array.range (1 * opR.n)).map (fun x => (opR.val opR.zero).cells[x % (opR.val opR.zero).cells.size]!)) = zeroOp.cells.toArray from by apply Array.toList_inj.1; rw [Array.toList_map, Array.toList_range]; rfl]
    obtain ⟨id, ten, inv, key, cmd, need, cost, cls, st, a1, a2, a3, code, ep, wk, t1, t2, t3⟩ := y
    kernel_rfl

theorem isAgg_int (w : World) : (isAgg 3).run Try.prog w = .ok false w := by kernel_rfl
theorem isAgg_str (w : World) : (isAgg 9).run Try.prog w = .ok false w := by kernel_rfl
theorem isAgg_u64 (w : World) : (isAgg 28).run Try.prog w = .ok false w := by kernel_rfl
theorem isAgg_act (w : World) : (isAgg 27).run Try.prog w = .ok true w := by kernel_rfl
theorem size_act (w : World) : (sizeOf 27).run Try.prog w = .ok 3 w := by kernel_rfl

/-- An action. -/
structure Acn where
  key : ByteArray
  cmd : ByteArray
  need : ByteArray
deriving DecidableEq
def Acn.cells (a : Acn) : List Value := [.string a.key, .string a.cmd, .string a.need]
def OpV.acn (x : OpV) : Acn := ⟨x.key, x.cmd, x.need⟩
/-- A tenant's action. -/
structure Fli where
  ten : Int
  a : Acn
deriving DecidableEq
def Fli.cells (f : Fli) : List Value := .int .i64 f.ten :: f.a.cells
def OpV.fli (x : OpV) : Fli := ⟨x.ten, x.acn⟩

theorem run_str (d : Nat) (a b : ByteArray) (w : World) : (Op.equalIn (d + 1) 9 (.string a) (.string b)).run Try.prog w = .ok (decide (a = b)) w := by
  rw [run_equalIn_string w d 9 a b Try.underlying9]
  congr 1
  rw [Bool.eq_iff_iff, beq_iff_eq, bytes_inj, decide_eq_true_iff]
theorem run_int (d : Nat) (a b : Int) (w : World) : (Op.equalIn (d + 1) 3 (.int .i64 a) (.int .i64 b)).run Try.prog w = .ok (decide (a = b)) w := by
  rw [run_equalIn_int w d 3 .i64 .i64 a b Try.underlying3]
  rfl
theorem run_u64 (d : Nat) (a b : Int) (w : World) : (Op.equalIn (d + 1) 28 (.int .u64 a) (.int .u64 b)).run Try.prog w = .ok (decide (a = b)) w := by
  rw [run_equalIn_int w d 28 .u64 .u64 a b Try.underlying28]
  rfl
theorem acn_part0 (x : Acn) (w : World) : (part 9 x.cells.toArray 0).run Try.prog w = .ok (.string x.key) w := by simp [part, Acn.cells]
theorem acn_part1 (x : Acn) (w : World) : (part 9 x.cells.toArray 1).run Try.prog w = .ok (.string x.cmd) w := by simp [part, Acn.cells]
theorem acn_part2 (x : Acn) (w : World) : (part 9 x.cells.toArray 2).run Try.prog w = .ok (.string x.need) w := by simp [part, Acn.cells]
theorem acn_eq (d : Nat) (x y : Acn) (w : World) : (Op.equalIn (d + 2) 27 (.agg x.cells.toArray) (.agg y.cells.toArray)).run Try.prog w = .ok (decide (x = y)) w := by
  have h0 : Try.prog.stoodInHeld 27 = false := by kernel_rfl
  unfold Op.equalIn
  simp only [Sem.run_bind, run_underlying Try.underlying27, Result.andThen_ok]
  simp [Sem.run_bind, h0, acn_part0, acn_part1, acn_part2, run_str]
  obtain ⟨a1, a2, a3⟩ := x
  obtain ⟨b1, b2, b3⟩ := y
  simp only [Acn.mk.injEq]
  by_cases h1 : a1 = b1 <;> by_cases h2 : a2 = b2 <;> by_cases h3 : a3 = b3 <;> simp [h1, h2, h3]
theorem fli_part0 (f : Fli) (w : World) : (part 3 f.cells.toArray 0).run Try.prog w = .ok (.int .i64 f.ten) w := by simp [part, Fli.cells]
theorem fli_part1 (f : Fli) (w : World) : (part 27 f.cells.toArray 1).run Try.prog w = .ok (.agg f.a.cells.toArray) w := by
  simp [part, Fli.cells, Acn.cells]
theorem fli_eq (d : Nat) (x y : Fli) (w : World) : (Op.equalIn (d + 3) 65 (.agg x.cells.toArray) (.agg y.cells.toArray)).run Try.prog w = .ok (decide (x = y)) w := by
  have h0 : Try.prog.stoodInHeld 65 = false := by kernel_rfl
  have ha := fun w => acn_eq d x.a y.a w
  have hi := fun w => run_int (d + 1) x.ten y.ten w
  unfold Op.equalIn
  simp only [Sem.run_bind, run_underlying Try.underlying65, Result.andThen_ok]
  simp [Sem.run_bind, h0, fli_part0, fli_part1, hi, ha]
  obtain ⟨a1, a2⟩ := x
  obtain ⟨b1, b2⟩ := y
  simp only [Fli.mk.injEq]
  by_cases h1 : a1 = b1 <;> by_cases h2 : a2 = b2 <;> simp [h1, h2]
theorem op_part0 (x : OpV) (w : World) : (part 3 x.cells.toArray 0).run Try.prog w = .ok (.int .i64 x.id) w := by simp [part, OpV.cells]
theorem op_part1 (x : OpV) (w : World) : (part 3 x.cells.toArray 1).run Try.prog w = .ok (.int .i64 x.ten) w := by simp [part, OpV.cells]
theorem op_part2 (x : OpV) (w : World) : (part 3 x.cells.toArray 2).run Try.prog w = .ok (.int .i64 x.inv) w := by simp [part, OpV.cells]
theorem op_part6 (x : OpV) (w : World) : (part 3 x.cells.toArray 6).run Try.prog w = .ok (.int .i64 x.cost) w := by simp [part, OpV.cells]
theorem op_part7 (x : OpV) (w : World) : (part 3 x.cells.toArray 7).run Try.prog w = .ok (.int .i64 x.cls) w := by simp [part, OpV.cells]
theorem op_part8 (x : OpV) (w : World) : (part 3 x.cells.toArray 8).run Try.prog w = .ok (.int .i64 x.st) w := by simp [part, OpV.cells]
theorem op_part9 (x : OpV) (w : World) : (part 3 x.cells.toArray 9).run Try.prog w = .ok (.int .i64 x.a1) w := by simp [part, OpV.cells]
theorem op_part10 (x : OpV) (w : World) : (part 3 x.cells.toArray 10).run Try.prog w = .ok (.int .i64 x.a2) w := by simp [part, OpV.cells]
theorem op_part11 (x : OpV) (w : World) : (part 3 x.cells.toArray 11).run Try.prog w = .ok (.int .i64 x.a3) w := by simp [part, OpV.cells]
theorem op_part12 (x : OpV) (w : World) : (part 3 x.cells.toArray 12).run Try.prog w = .ok (.int .i64 x.code) w := by simp [part, OpV.cells]
theorem op_part13 (x : OpV) (w : World) : (part 3 x.cells.toArray 13).run Try.prog w = .ok (.int .i64 x.ep) w := by simp [part, OpV.cells]
theorem op_part14 (x : OpV) (w : World) : (part 3 x.cells.toArray 14).run Try.prog w = .ok (.int .i64 x.wk) w := by simp [part, OpV.cells]
theorem op_part15 (x : OpV) (w : World) : (part 28 x.cells.toArray 15).run Try.prog w = .ok (.int .u64 x.t1) w := by simp [part, OpV.cells]
theorem op_part16 (x : OpV) (w : World) : (part 28 x.cells.toArray 16).run Try.prog w = .ok (.int .u64 x.t2) w := by simp [part, OpV.cells]
theorem op_part17 (x : OpV) (w : World) : (part 28 x.cells.toArray 17).run Try.prog w = .ok (.int .u64 x.t3) w := by simp [part, OpV.cells]
theorem op_part3 (x : OpV) (w : World) : (part 27 x.cells.toArray 3).run Try.prog w = .ok (.agg x.acn.cells.toArray) w := by
  simp [part, OpV.cells, OpV.acn, Acn.cells]
theorem eqF_cons {d : Nat} {xs ys : Array Value} {f : Field} {fs : List Field} {a b : Value} {r : Bool} {w : World} (hn : f.name ≠ "_") (ha : (part f.type xs f.offset).run Try.prog w = .ok a w) (hb : (part f.type ys f.offset).run Try.prog w = .ok b w)
    (he : (Op.equalIn d f.type a b).run Try.prog w = .ok r w) : (Op.eqFields d xs ys (f :: fs)).run Try.prog w = if r = true then (Op.eqFields d xs ys fs).run Try.prog w else .ok false w := by
  simp only [Op.eqFields, if_pos hn, Sem.run_bind, ha, hb, he, Result.andThen_ok]
  cases r <;> simp
theorem ite_no {b : Bool} {r : Result Bool} {w : World} (h : b = true → r = .ok false w) : (if b = true then r else .ok false w) = .ok false w := by
  split
  · rename_i hb; exact h hb
  · rfl
set_option maxHeartbeats 1000000 in
theorem op_eq (d : Nat) (x y : OpV) (w : World) : (Op.equalIn (d + 3) 30 (.agg x.cells.toArray) (.agg y.cells.toArray)).run Try.prog w = .ok (decide (x = y)) w := by
  have ha := fun w => acn_eq d x.acn y.acn w
  have hi := fun a b w => run_int (d + 1) a b w
  have hu := fun a b w => run_u64 (d + 1) a b w
  rw [run_equalIn_struct w (d + 2) 30 _ _ (by simp only [Program.fieldsOf, Try.underlying30]) (by kernel_rfl)]
  simp only [Program.fieldsOf, Try.underlying30]
  rw [eqF_cons (by decide) (op_part0 x w) (op_part0 y w) (hi _ _ w), eqF_cons (by decide) (op_part1 x w) (op_part1 y w) (hi _ _ w), eqF_cons (by decide) (op_part2 x w) (op_part2 y w) (hi _ _ w), eqF_cons (by decide) (op_part3 x w) (op_part3 y w) (ha w), eqF_cons (by decide) (op_part6 x w) (op_part6 y w) (hi _ _ w), eqF_cons (by decide) (op_part7 x w) (op_part7 y w) (hi _ _ w), eqF_cons (by decide) (op_part8 x w) (op_part8 y w) (hi _ _ w), eqF_cons (by decide) (op_part9 x w) (op_part9 y w) (hi _ _ w), eqF_cons (by decide) (op_part10 x w) (op_part10 y w) (hi _ _ w), eqF_cons (by decide) (op_part11 x w) (op_part11 y w) (hi _ _ w), eqF_cons (by decide) (op_part12 x w) (op_part12 y w) (hi _ _ w), eqF_cons (by decide) (op_part13 x w) (op_part13 y w) (hi _ _ w), eqF_cons (by decide) (op_part14 x w) (op_part14 y w) (hi _ _ w), eqF_cons (by decide) (op_part15 x w) (op_part15 y w) (hu _ _ w), eqF_cons (by decide) (op_part16 x w) (op_part16 y w) (hu _ _ w), eqF_cons (by decide) (op_part17 x w) (op_part17 y w) (hu _ _ w)]
  by_cases h : x = y
  · subst h
    simp [Op.eqFields]
  · rw [decide_eq_false h]
    repeat (refine ite_no ?_; intro hh; first | (have := of_decide_eq_true hh; clear hh))
    exfalso
    apply h
    cases x
    cases y
    simp_all [OpV.acn]
end Go.Proofs.Ytddmajgadaooaaa
