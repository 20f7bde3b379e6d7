/-
  No cell of these rows narrows 'for every input' (looked for: loops, veiled, ifaces, maps, wideKeys, modest, calm, conditions, laid).
  DERIVED. THE GIVEN ROWS OF THIS SEAT. 3 by the template 'for every input the law returns true; each argument reads behind the call as it read before'; 0 by the template 'total and deterministic' (their statements: YtogajmbkjojdhaaTotals.lean).
  GIVEN WITH THE SEED: the statements are not yours to turn. If you find one false, say at which input.
  Laid BY PROGRAM, IN A SANDBOX (cutbox-rows.mjs): the forced cells as the released guide's own fill.sh prints them over the translation 2fb0fb5965107ab9… (all of the seat's roots in one cut). By AI agents, Wed Nov 11 2026. No macro, syntax, notation, axiom, sorry.
-/
import Derived.Test.YtogajmbkjojdhaaChecked
import GoSem.Claim
import GoSem.ClaimJoined
import GoSem.ClaimMapViews
import Derived.JoinedTies
import Derived.KernelRfl
namespace Go.Proofs.Ytogajmbkjojdhaa
/- THE CELL 'sum', in the pinned program and in every row, IS THE sha256 OF THE DUMP (.gsa) THAT YtogajmbkjojdhaaProg.lean LOADS. Nothing in Lean hashes anything: it is a label: what it is worth is what the hold of that sum in a sandbox is worth. -/
noncomputable def Try.pinned : Pinned := { name := "ytogajmbkjojdhaa", sum := "2fb0fb5965107ab979b6e11c536c0c42906d2549f692441b5e1a50cec5918457", checked := Try.checked }
namespace Rows
def none {H : Type} : Left H := { results := [], args := [] }

/-- 'billetlaw31.InvocBounds': WHATEVER THE INPUT: true; the input reads as it did. -/
def invocBoundsSpec : ChangeSpec := { name := "invocBounds", fn := fun _ => fun
  | [d1, d2] => { results := [.lit (.bool true)], args := [d1, d2] }
  | _ => none }
def invocBoundsRow : OpenClaim := { program := "ytogajmbkjojdhaa", sum := "2fb0fb5965107ab979b6e11c536c0c42906d2549f692441b5e1a50cec5918457", func := "billet/billetlaw31.InvocBounds", spec := "invocBounds", unfollowed := true, recurses := true, plainKeys := false, apart := false }
def InvocBoundsSaid : Prop := invocBoundsRow.holds Try.pinned (OpenSpec.ofChange invocBoundsSpec)

/-- ITS FALSE NEIGHBOUR: 'it returns false'. Refute it at one input. -/
def invocBoundsWrong : ChangeSpec := { name := "invocBounds", fn := fun _ => fun
  | [d1, d2] => { results := [.lit (.bool false)], args := [d1, d2] }
  | _ => none }
def InvocBoundsWrongFalsely : Prop := invocBoundsRow.holds Try.pinned (OpenSpec.ofChange invocBoundsWrong)

/-- 'billetlaw31.InvocActs': WHATEVER THE INPUT: true; the input reads as it did. -/
def invocActsSpec : ChangeSpec := { name := "invocActs", fn := fun _ => fun
  | [d1, d2] => { results := [.lit (.bool true)], args := [d1, d2] }
  | _ => none }
def invocActsRow : OpenClaim := { program := "ytogajmbkjojdhaa", sum := "2fb0fb5965107ab979b6e11c536c0c42906d2549f692441b5e1a50cec5918457", func := "billet/billetlaw31.InvocActs", spec := "invocActs", unfollowed := true, recurses := true, plainKeys := false, apart := false }
def InvocActsSaid : Prop := invocActsRow.holds Try.pinned (OpenSpec.ofChange invocActsSpec)

/-- ITS FALSE NEIGHBOUR: 'it returns false'. Refute it at one input. -/
def invocActsWrong : ChangeSpec := { name := "invocActs", fn := fun _ => fun
  | [d1, d2] => { results := [.lit (.bool false)], args := [d1, d2] }
  | _ => none }
def InvocActsWrongFalsely : Prop := invocActsRow.holds Try.pinned (OpenSpec.ofChange invocActsWrong)

/-- 'billetlaw31.InvocLoads': WHATEVER THE INPUT: true; the input reads as it did. -/
def invocLoadsSpec : ChangeSpec := { name := "invocLoads", fn := fun _ => fun
  | [d1, d2, d3] => { results := [.lit (.bool true)], args := [d1, d2, d3] }
  | _ => none }
def invocLoadsRow : OpenClaim := { program := "ytogajmbkjojdhaa", sum := "2fb0fb5965107ab979b6e11c536c0c42906d2549f692441b5e1a50cec5918457", func := "billet/billetlaw31.InvocLoads", spec := "invocLoads", unfollowed := true, recurses := true, plainKeys := false, apart := false }
def InvocLoadsSaid : Prop := invocLoadsRow.holds Try.pinned (OpenSpec.ofChange invocLoadsSpec)

/-- ITS FALSE NEIGHBOUR: 'it returns false'. Refute it at one input. -/
def invocLoadsWrong : ChangeSpec := { name := "invocLoads", fn := fun _ => fun
  | [d1, d2, d3] => { results := [.lit (.bool false)], args := [d1, d2, d3] }
  | _ => none }
def InvocLoadsWrongFalsely : Prop := invocLoadsRow.holds Try.pinned (OpenSpec.ofChange invocLoadsWrong)

/- THE SECOND FORM. 'bulk': how many values and letters a reading holds, each counted each time it is reached (what is shared counts as often as it is met; a slice's spare places count too). A statement '..UptoSaid' is the law's where the arguments, and the package variables that the reading takes, are together of bulk at most 1048576: NARROWER than '..Said'. Prove '..Said' where nothing that the law and all that it calls make is longer than what came in: it says more and counts as full. Else prove '..UptoSaid'. A law counts once. -/
mutual
def uptoBulk {H : Type} : DataW H → Nat
  | .lit (.string bytes) => bytes.length + 1
  | .lit _ => 1
  | .nil => 1
  | .ptr d => uptoBulk d + 1
  | .slice elems spare => uptoBulkAll elems + uptoBulkAll spare + 1
  | .agg parts => uptoBulkAll parts + 1
  | .iface _ d => uptoBulk d + 1
  | .map entries => uptoBulkEntries entries + 1
  | .held _ => 1
def uptoBulkAll {H : Type} : List (DataW H) → Nat
  | [] => 0
  | d :: r => uptoBulk d + uptoBulkAll r
def uptoBulkEntries {H : Type} : List (Lit × DataW H) → Nat
  | [] => 0
  | x :: r => uptoBulkEntry x + uptoBulkEntries r
def uptoBulkEntry {H : Type} : Lit × DataW H → Nat
  | (.string bytes, d) => bytes.length + uptoBulk d + 1
  | (_, d) => uptoBulk d + 1
 end
def uptoSmall : (H : Type) → List (DataW H) → Bool := fun _ ds => decide (uptoBulkAll ds ≤ 1048576)
def OpenSpec.upto (s : _root_.Go.ChangeSpec) : _root_.Go.OpenSpec := { _root_.Go.OpenSpec.ofChange s with cond := some uptoSmall }

/-- 'billetlaw31.InvocBounds', WHERE WHAT IT READS IS OF BULK AT MOST 1048576: true; the input reads as it did. -/
def invocBoundsUptoRow : OpenClaim := { program := "ytogajmbkjojdhaa", sum := "2fb0fb5965107ab979b6e11c536c0c42906d2549f692441b5e1a50cec5918457", func := "billet/billetlaw31.InvocBounds", spec := "invocBounds", unfollowed := true, recurses := true, plainKeys := false, apart := false, narrowed := true }
def InvocBoundsUptoSaid : Prop := invocBoundsUptoRow.holds Try.pinned (OpenSpec.upto invocBoundsSpec)

/-- 'billetlaw31.InvocActs', WHERE WHAT IT READS IS OF BULK AT MOST 1048576: true; the input reads as it did. -/
def invocActsUptoRow : OpenClaim := { program := "ytogajmbkjojdhaa", sum := "2fb0fb5965107ab979b6e11c536c0c42906d2549f692441b5e1a50cec5918457", func := "billet/billetlaw31.InvocActs", spec := "invocActs", unfollowed := true, recurses := true, plainKeys := false, apart := false, narrowed := true }
def InvocActsUptoSaid : Prop := invocActsUptoRow.holds Try.pinned (OpenSpec.upto invocActsSpec)

/-- 'billetlaw31.InvocLoads', WHERE WHAT IT READS IS OF BULK AT MOST 1048576: true; the input reads as it did. -/
def invocLoadsUptoRow : OpenClaim := { program := "ytogajmbkjojdhaa", sum := "2fb0fb5965107ab979b6e11c536c0c42906d2549f692441b5e1a50cec5918457", func := "billet/billetlaw31.InvocLoads", spec := "invocLoads", unfollowed := true, recurses := true, plainKeys := false, apart := false, narrowed := true }
def InvocLoadsUptoSaid : Prop := invocLoadsUptoRow.holds Try.pinned (OpenSpec.upto invocLoadsSpec)

end Rows
end Go.Proofs.Ytogajmbkjojdhaa
