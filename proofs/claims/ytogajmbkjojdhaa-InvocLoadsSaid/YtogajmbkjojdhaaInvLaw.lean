/- Invocations: records, keys, and the plain law. -/
import Derived.Test.YtogajmbkjojdhaaConfOne
import Derived.Test.YtogajmbkjojdhaaMapS
import Derived.Test.YtogajmbkjojdhaaUpdP
import Derived.Test.YtogajmbkjojdhaaMix
set_option linter.unusedVariables false
set_option linter.unusedSimpArgs false
set_option maxRecDepth 100000
namespace Go.Proofs.Ytogajmbkjojdhaa
open Go.RowKit

/-- An invocation. -/
structure Iv where
  no : Int
  tn : Int
  nm : ByteArray
  wt : Int
  ld : Int
deriving DecidableEq
def zeroIv : Iv := ⟨0, 0, ⟨#[]⟩, 0, 0⟩
def ivR : Rec Iv := ⟨32, 35, 5, 48, fun x => .agg #[.int .i64 x.no, .int .i64 x.tn, .string x.nm, .int .i64 x.wt, .int .i64 x.ld], zeroIv⟩
theorem ivOk : ivR.Ok where
  pos := by decide
  small := by decide
  bsmall := by decide
  len := fun _ => rfl
  one := by
    intro x v hv
    simp [Rec.cells, ivR, Value.cells] at hv
    rcases hv with rfl | rfl | rfl | rfl | rfl <;> rfl
  slice := Try.underlying35
  info := ⟨_, rfl, rfl, rfl, rfl⟩
  fill := by
    intro y
    rw [show ((Array.range (1 * ivR.n)).map (fun x => (ivR.val ivR.zero).cells[x % (ivR.val ivR.zero).cells.size]!)) = #[.int .i64 0, .int .i64 0, .string ⟨#[]⟩, .int .i64 0, .int .i64 0] from by apply Array.toList_inj.1; rw [Array.toList_map, Array.toList_range]; rfl]
    simp [Instr.fill, Value.cells, ivR]
theorem iv_part0 (x : Iv) (w : World) : (part 3 (ivR.cells x).toArray 0).run Try.prog w = .ok (.int .i64 x.no) w := by
  have ht : (isAgg 3).run Try.prog w = .ok false w := by kernel_rfl
  simp [part, ht, Rec.cells, ivR, Value.cells]
theorem iv_part1 (x : Iv) (w : World) : (part 3 (ivR.cells x).toArray 1).run Try.prog w = .ok (.int .i64 x.tn) w := by
  have ht : (isAgg 3).run Try.prog w = .ok false w := by kernel_rfl
  simp [part, ht, Rec.cells, ivR, Value.cells]
theorem iv_part2 (x : Iv) (w : World) : (part 9 (ivR.cells x).toArray 2).run Try.prog w = .ok (.string x.nm) w := by
  have ht : (isAgg 9).run Try.prog w = .ok false w := by kernel_rfl
  simp [part, ht, Rec.cells, ivR, Value.cells]
theorem iv_part3 (x : Iv) (w : World) : (part 3 (ivR.cells x).toArray 3).run Try.prog w = .ok (.int .i64 x.wt) w := by
  have ht : (isAgg 3).run Try.prog w = .ok false w := by kernel_rfl
  simp [part, ht, Rec.cells, ivR, Value.cells]
theorem iv_part4 (x : Iv) (w : World) : (part 3 (ivR.cells x).toArray 4).run Try.prog w = .ok (.int .i64 x.ld) w := by
  have ht : (isAgg 3).run Try.prog w = .ok false w := by kernel_rfl
  simp [part, ht, Rec.cells, ivR, Value.cells]
theorem iv_eq (d : Nat) (x y : Iv) (w : World) : (Op.equalIn (d + 2) 32 (.agg (ivR.cells x).toArray) (.agg (ivR.cells y).toArray)).run Try.prog w = .ok (decide (x = y)) w := by
  have h0 : Try.prog.stoodInHeld 32 = false := by kernel_rfl
  unfold Op.equalIn
  simp only [Sem.run_bind, run_underlying Try.underlying32, Result.andThen_ok]
  simp [Sem.run_bind, h0, iv_part0, iv_part1, iv_part2, iv_part3, iv_part4, run_equalIn_int w d 3 .i64 .i64 _ _ Try.underlying3, run_equalIn_string w d 9 _ _ Try.underlying9, bytesInj]
  obtain ⟨a1, a2, a3, a4, a5⟩ := x
  obtain ⟨b1, b2, b3, b4, b5⟩ := y
  simp only [Iv.mk.injEq]
  by_cases h1 : a1 = b1 <;> by_cases h2 : a2 = b2 <;> by_cases h3 : a3 = b3 <;> by_cases h4 : a4 = b4 <;> by_cases h5 : a5 = b5 <;> simp [h1, h2, h3, h4, h5]
theorem ivGuard : Try.prog.eqGuardType Try.prog.depth 32 = false := by kernel_rfl

/-! ### keys: a tenant, and a name -/
abbrev Nk := Int × ByteArray
def nkCells (k : Nk) : List Value := [.int .i64 k.1, .string k.2]
def nkK : KeyK Nk := ⟨72, fun k => .agg (nkCells k).toArray⟩
theorem nk_part0 (k : Nk) (w : World) : (part 3 (nkCells k).toArray 0).run Try.prog w = .ok (.int .i64 k.1) w := by
  have ht : (isAgg 3).run Try.prog w = .ok false w := by kernel_rfl
  simp [part, ht, nkCells]
theorem nk_part1 (k : Nk) (w : World) : (part 9 (nkCells k).toArray 1).run Try.prog w = .ok (.string k.2) w := by
  have ht : (isAgg 9).run Try.prog w = .ok false w := by kernel_rfl
  simp [part, ht, nkCells]
theorem nk_eq (d : Nat) (x y : Nk) (w : World) : (Op.equalIn (d + 2) 72 (.agg (nkCells x).toArray) (.agg (nkCells y).toArray)).run Try.prog w = .ok (decide (x = y)) w := by
  have h0 : Try.prog.stoodInHeld 72 = false := by kernel_rfl
  unfold Op.equalIn
  simp only [Sem.run_bind, run_underlying Try.underlying72, Result.andThen_ok]
  simp [Sem.run_bind, h0, nk_part0, nk_part1, run_equalIn_int w d 3 .i64 .i64 _ _ Try.underlying3, run_equalIn_string w d 9 _ _ Try.underlying9, bytesInj]
  obtain ⟨a1, a2⟩ := x
  obtain ⟨b1, b2⟩ := y
  by_cases h1 : a1 = b1 <;> by_cases h2 : a2 = b2 <;> simp [h1, h2]
theorem checkPlain (e : Bool) (n : Nat) (ty : TypeId) (v : Value) (w : World) (h : (∃ x, Try.prog.underlying ty = some (.int .i64) ∧ v = .int .i64 x) ∨ (∃ s, Try.prog.underlying ty = some .string ∧ v = .string s)) : (Instr.checkKey e (n + 1) ty v).run Try.prog w = .ok () w := by
  unfold Instr.checkKey
  rcases h with ⟨x, hu, rfl⟩ | ⟨s, hu, rfl⟩
  · simp [Sem.run_bind, run_underlying hu]
  · simp [Sem.run_bind, run_underlying hu]
theorem checkNk (e : Bool) (n : Nat) (k : Nk) (w : World) : (Instr.checkKey e (n + 2) 72 (.agg (nkCells k).toArray)).run Try.prog w = .ok () w := by
  have hs := fun s w => checkPlain e n 9 (.string s) w (.inr ⟨s, Try.underlying9, rfl⟩)
  have hi := fun x w => checkPlain e n 3 (.int .i64 x) w (.inl ⟨x, Try.underlying3, rfl⟩)
  unfold Instr.checkKey
  simp [Sem.run_bind, run_underlying Try.underlying72, nk_part0, nk_part1, hs, hi]
theorem findNk (k : Nk) (w : World) : ∀ (es : List MapEntry) (M : List (Nk × Value)) (i : Nat), Aligned nkK es M → (Instr.findAsking 72 (.agg (nkCells k).toArray) es i).run Try.prog w = .ok (firstAt k M i) w
  | [], M, i, h => by
    cases M with
    | nil => rfl
    | cons p r => simp [Aligned] at h
  | e :: es, M, i, h => by
    cases M with
    | nil => simp [Aligned] at h
    | cons p r =>
      simp only [Aligned, List.map_cons, List.cons.injEq, Prod.mk.injEq] at h
      obtain ⟨⟨hk, hv⟩, hr⟩ := h
      have he : (Op.equal 72 (.agg (nkCells k).toArray) (.agg (nkCells p.1).toArray)).run Try.prog w = .ok (decide (k = p.1)) w := nk_eq 9998 k p.1 w
      have ih := findNk k w es r (i + 1) hr
      have hk2 : e.key = .agg (nkCells p.1).toArray := hk
      simp only [Instr.findAsking, Sem.run_bind, hk2, he, Result.andThen_ok]
      unfold firstAt
      by_cases hp : k = p.1
      · rw [decide_eq_true hp, if_pos rfl, if_pos hp.symm, hv]
        rfl
      · rw [decide_eq_false hp, if_neg (by simp), if_neg (fun h => hp h.symm)]
        exact ih
theorem sameNk (k : Nk) : Instr.sameBits 10000 (.agg (nkCells k).toArray) (.agg (nkCells k).toArray) = true := by
  show Instr.sameBits (9999 + 1) _ _ = true
  simp [Instr.sameBits, nkCells, beqBytes]
theorem nkOk : nkK.Ok where
  check := fun e k w => checkNk e 9998 k w
  stays := fun k => sameNk k
  find := fun k es M w h => by
    unfold Instr.findKey
    simp only [Sem.run_bind, nkK, run_underlying Try.underlying72, Result.andThen_ok]
    cases es with
    | nil =>
      cases M with
      | nil => rfl
      | cons p r => simp [Aligned] at h
    | cons e es =>
      have := findNk k w (e :: es) M 0 h
      simpa [Instr.findNow, Instr.sameNow] using this

/-! ### the plain law -/
def isNo (n : Int) (x : Iv) : Bool := decide (x.no = n)
def isNm (t : Int) (s : ByteArray) (x : Iv) : Bool := decide (x.tn = t ∧ x.nm = s)
def isTn (t : Int) (x : Iv) : Bool := decide (x.tn = t)
def fNo (L : List Iv) (n : Int) : Option Iv := L.find? (isNo n)
def fNm (L : List Iv) (t : Int) (s : ByteArray) : Option Iv := L.find? (isNm t s)
def cntT (L : List Iv) (t : Int) : Nat := (L.filter (isTn t)).length
def sumL (L : List Iv) : Int := (L.map Iv.ld).sum
def loadT (L : List Iv) (t : Int) : Int := sumL (L.filter (isTn t))
def quota (c : Cfg) (t : Int) : Int := match c.T[t.toNat]? with | some x => x.q | none => 0
def chkI (c : Cfg) (L : List Iv) (t : Int) (s : ByteArray) (wt : Int) : Int :=
  if t < 0 ∨ (c.T.length : Int) ≤ t then 6 else if nameB s.data.toList = false then 5 else if wt < 1 ∨ c.weight < wt then 1 else if (fNm L t s).isSome = true then 8 else if c.invs ≤ (cntT L t : Int) then 9 else 0
def roomI (c : Cfg) (L : List Iv) (n : Int) : Int := match fNo L n with
  | none => 7
  | some x => if quota c x.tn ≤ loadT L x.tn then 12 else if c.cap ≤ x.ld then 13 else 0
def closeI (L : List Iv) (n : Int) : Int := match fNo L n with | none => 7 | some x => if 0 < x.ld then 10 else 0
def dropI (L : List Iv) (n : Int) : List Iv := L.filter fun x => !isNo n x
def moreI (L : List Iv) (n d : Int) : List Iv := L.map fun x => if isNo n x = true then { x with ld := x.ld + d } else x
def leaveB (L : List Iv) (n : Int) : Bool := match fNo L n with | none => false | some x => decide (x.ld ≠ 0)
/-- What invocations always are. -/
structure InvOk (c : Cfg) (last : Int) (L : List Iv) : Prop where
  asc : L.Pairwise fun x y => x.no < y.no
  low : ∀ x ∈ L, 0 < x.no
  high : ∀ x ∈ L, x.no ≤ last
  names : L.Pairwise fun x y => ¬ (x.tn = y.tn ∧ x.nm = y.nm)
  tens : ∀ x ∈ L, 0 ≤ x.tn ∧ x.tn < (c.T.length : Int)
  loads : ∀ x ∈ L, 0 ≤ x.ld ∧ x.ld ≤ c.cap
  cap : c.cap ≤ 32
  last : 0 ≤ last ∧ last ≤ 9223372036854775807
  nms : ∀ x ∈ L, x.nm.size ≤ 9223372036854775807
end Go.Proofs.Ytogajmbkjojdhaa
