/-
  No cell of these rows narrows 'for every input' (looked for: loops, veiled, ifaces, maps, wideKeys, modest, calm, conditions, laid).
  DERIVED. THE GIVEN ROWS OF THIS SEAT. 4 by the template 'for every input the law returns true; each argument reads behind the call as it read before'; 0 by the template 'total and deterministic' (their statements: YtddmajgadaooaaaTotals.lean).
  GIVEN WITH THE SEED: the statements are not yours to turn. If you find one false, say at which input.
  Laid BY PROGRAM, IN A SANDBOX (cutbox-rows.mjs): the forced cells as the released guide's own fill.sh prints them over the translation f7bfe1d723b8f64b… (all of the seat's roots in one cut). By AI agents, Wed Nov 11 2026. No macro, syntax, notation, axiom, sorry.
-/
import Derived.Test.YtddmajgadaooaaaChecked
import GoSem.Claim
import GoSem.ClaimJoined
import GoSem.ClaimMapViews
import Derived.JoinedTies
import Derived.KernelRfl
namespace Go.Proofs.Ytddmajgadaooaaa
/- THE CELL 'sum', in the pinned program and in every row, IS THE sha256 OF THE DUMP (.gsa) THAT YtddmajgadaooaaaProg.lean LOADS. Nothing in Lean hashes anything: it is a label: what it is worth is what the hold of that sum in a sandbox is worth. -/
noncomputable def Try.pinned : Pinned := { name := "ytddmajgadaooaaa", sum := "f7bfe1d723b8f64bb71869a553ffdd1f88e80b71c491f399f665675fa13ff128", checked := Try.checked }
namespace Rows
def none {H : Type} : Left H := { results := [], args := [] }

/-- 'billetlaw32.OpsKeeps': WHATEVER THE INPUT: true; the input reads as it did. -/
def opsKeepsSpec : ChangeSpec := { name := "opsKeeps", fn := fun _ => fun
  | [d1, d2] => { results := [.lit (.bool true)], args := [d1, d2] }
  | _ => none }
def opsKeepsRow : OpenClaim := { program := "ytddmajgadaooaaa", sum := "f7bfe1d723b8f64bb71869a553ffdd1f88e80b71c491f399f665675fa13ff128", func := "billet/billetlaw32.OpsKeeps", spec := "opsKeeps", unfollowed := true, recurses := true, plainKeys := false, apart := false }
def OpsKeepsSaid : Prop := opsKeepsRow.holds Try.pinned (OpenSpec.ofChange opsKeepsSpec)

/-- ITS FALSE NEIGHBOUR: 'it returns false'. Refute it at one input. -/
def opsKeepsWrong : ChangeSpec := { name := "opsKeeps", fn := fun _ => fun
  | [d1, d2] => { results := [.lit (.bool false)], args := [d1, d2] }
  | _ => none }
def OpsKeepsWrongFalsely : Prop := opsKeepsRow.holds Try.pinned (OpenSpec.ofChange opsKeepsWrong)

/-- 'billetlaw32.OpsActs': WHATEVER THE INPUT: true; the input reads as it did. -/
def opsActsSpec : ChangeSpec := { name := "opsActs", fn := fun _ => fun
  | [d1, d2] => { results := [.lit (.bool true)], args := [d1, d2] }
  | _ => none }
def opsActsRow : OpenClaim := { program := "ytddmajgadaooaaa", sum := "f7bfe1d723b8f64bb71869a553ffdd1f88e80b71c491f399f665675fa13ff128", func := "billet/billetlaw32.OpsActs", spec := "opsActs", unfollowed := true, recurses := true, plainKeys := false, apart := false }
def OpsActsSaid : Prop := opsActsRow.holds Try.pinned (OpenSpec.ofChange opsActsSpec)

/-- ITS FALSE NEIGHBOUR: 'it returns false'. Refute it at one input. -/
def opsActsWrong : ChangeSpec := { name := "opsActs", fn := fun _ => fun
  | [d1, d2] => { results := [.lit (.bool false)], args := [d1, d2] }
  | _ => none }
def OpsActsWrongFalsely : Prop := opsActsRow.holds Try.pinned (OpenSpec.ofChange opsActsWrong)

/-- 'billetlaw32.OpsNil': WHATEVER THE INPUT: true; the input reads as it did. -/
def opsNilSpec : ChangeSpec := { name := "opsNil", fn := fun _ => fun
  | [d] => { results := [.lit (.bool true)], args := [d] }
  | _ => none }
def opsNilRow : OpenClaim := { program := "ytddmajgadaooaaa", sum := "f7bfe1d723b8f64bb71869a553ffdd1f88e80b71c491f399f665675fa13ff128", func := "billet/billetlaw32.OpsNil", spec := "opsNil", unfollowed := true, recurses := true, plainKeys := false, apart := false }
def OpsNilSaid : Prop := opsNilRow.holds Try.pinned (OpenSpec.ofChange opsNilSpec)

/-- ITS FALSE NEIGHBOUR: 'it returns false'. Refute it at one input. -/
def opsNilWrong : ChangeSpec := { name := "opsNil", fn := fun _ => fun
  | [d] => { results := [.lit (.bool false)], args := [d] }
  | _ => none }
def OpsNilWrongFalsely : Prop := opsNilRow.holds Try.pinned (OpenSpec.ofChange opsNilWrong)

/-- 'billetlaw32.OpsLoads': WHATEVER THE INPUT: true; the input reads as it did. -/
def opsLoadsSpec : ChangeSpec := { name := "opsLoads", fn := fun _ => fun
  | [d1, d2, d3] => { results := [.lit (.bool true)], args := [d1, d2, d3] }
  | _ => none }
def opsLoadsRow : OpenClaim := { program := "ytddmajgadaooaaa", sum := "f7bfe1d723b8f64bb71869a553ffdd1f88e80b71c491f399f665675fa13ff128", func := "billet/billetlaw32.OpsLoads", spec := "opsLoads", unfollowed := true, recurses := true, plainKeys := false, apart := false }
def OpsLoadsSaid : Prop := opsLoadsRow.holds Try.pinned (OpenSpec.ofChange opsLoadsSpec)

/-- ITS FALSE NEIGHBOUR: 'it returns false'. Refute it at one input. -/
def opsLoadsWrong : ChangeSpec := { name := "opsLoads", fn := fun _ => fun
  | [d1, d2, d3] => { results := [.lit (.bool false)], args := [d1, d2, d3] }
  | _ => none }
def OpsLoadsWrongFalsely : Prop := opsLoadsRow.holds Try.pinned (OpenSpec.ofChange opsLoadsWrong)

/- THE SECOND FORM. 'bulk': how many values and letters a reading holds, each counted each time it is reached (what is shared counts as often as it is met; a slice's spare places count too). A statement '..UptoSaid' is the law's where the arguments, and the package variables that the reading takes, are together of bulk at most 1048576: NARROWER than '..Said'. Prove '..Said' where nothing that the law and all that it calls make is longer than what came in: it says more and counts as full. Else prove '..UptoSaid'. A law counts once. -/
mutual
def uptoBulk {H : Type} : DataW H → Nat
  | .lit (.string bytes) => bytes.length + 1
  | .lit _ => 1
  | .nil => 1
  | .ptr d => uptoBulk d + 1
  | .slice elems spare => uptoBulkAll elems + uptoBulkAll spare + 1
  | .agg parts => uptoBulkAll parts + 1
  | .iface _ d => uptoBulk d + 1
  | .map entries => uptoBulkEntries entries + 1
  | .held _ => 1
def uptoBulkAll {H : Type} : List (DataW H) → Nat
  | [] => 0
  | d :: r => uptoBulk d + uptoBulkAll r
def uptoBulkEntries {H : Type} : List (Lit × DataW H) → Nat
  | [] => 0
  | x :: r => uptoBulkEntry x + uptoBulkEntries r
def uptoBulkEntry {H : Type} : Lit × DataW H → Nat
  | (.string bytes, d) => bytes.length + uptoBulk d + 1
  | (_, d) => uptoBulk d + 1
 end
def uptoSmall : (H : Type) → List (DataW H) → Bool := fun _ ds => decide (uptoBulkAll ds ≤ 1048576)
def OpenSpec.upto (s : _root_.Go.ChangeSpec) : _root_.Go.OpenSpec := { _root_.Go.OpenSpec.ofChange s with cond := some uptoSmall }

/-- 'billetlaw32.OpsKeeps', WHERE WHAT IT READS IS OF BULK AT MOST 1048576: true; the input reads as it did. -/
def opsKeepsUptoRow : OpenClaim := { program := "ytddmajgadaooaaa", sum := "f7bfe1d723b8f64bb71869a553ffdd1f88e80b71c491f399f665675fa13ff128", func := "billet/billetlaw32.OpsKeeps", spec := "opsKeeps", unfollowed := true, recurses := true, plainKeys := false, apart := false, narrowed := true }
def OpsKeepsUptoSaid : Prop := opsKeepsUptoRow.holds Try.pinned (OpenSpec.upto opsKeepsSpec)

/-- 'billetlaw32.OpsActs', WHERE WHAT IT READS IS OF BULK AT MOST 1048576: true; the input reads as it did. -/
def opsActsUptoRow : OpenClaim := { program := "ytddmajgadaooaaa", sum := "f7bfe1d723b8f64bb71869a553ffdd1f88e80b71c491f399f665675fa13ff128", func := "billet/billetlaw32.OpsActs", spec := "opsActs", unfollowed := true, recurses := true, plainKeys := false, apart := false, narrowed := true }
def OpsActsUptoSaid : Prop := opsActsUptoRow.holds Try.pinned (OpenSpec.upto opsActsSpec)

/-- 'billetlaw32.OpsNil', WHERE WHAT IT READS IS OF BULK AT MOST 1048576: true; the input reads as it did. -/
def opsNilUptoRow : OpenClaim := { program := "ytddmajgadaooaaa", sum := "f7bfe1d723b8f64bb71869a553ffdd1f88e80b71c491f399f665675fa13ff128", func := "billet/billetlaw32.OpsNil", spec := "opsNil", unfollowed := true, recurses := true, plainKeys := false, apart := false, narrowed := true }
def OpsNilUptoSaid : Prop := opsNilUptoRow.holds Try.pinned (OpenSpec.upto opsNilSpec)

/-- 'billetlaw32.OpsLoads', WHERE WHAT IT READS IS OF BULK AT MOST 1048576: true; the input reads as it did. -/
def opsLoadsUptoRow : OpenClaim := { program := "ytddmajgadaooaaa", sum := "f7bfe1d723b8f64bb71869a553ffdd1f88e80b71c491f399f665675fa13ff128", func := "billet/billetlaw32.OpsLoads", spec := "opsLoads", unfollowed := true, recurses := true, plainKeys := false, apart := false, narrowed := true }
def OpsLoadsUptoSaid : Prop := opsLoadsUptoRow.holds Try.pinned (OpenSpec.upto opsLoadsSpec)

end Rows
end Go.Proofs.Ytddmajgadaooaaa
