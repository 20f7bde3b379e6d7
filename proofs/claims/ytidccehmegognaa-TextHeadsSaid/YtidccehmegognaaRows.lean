/-
  No cell of these rows narrows 'for every input' (looked for: loops, veiled, ifaces, maps, wideKeys, modest, calm, conditions, laid).
  DERIVED. THE GIVEN ROWS OF THIS SEAT. 4 by the template 'for every input the law returns true; each argument reads behind the call as it read before'; 0 by the template 'total and deterministic' (their statements: YtidccehmegognaaTotals.lean).
  GIVEN WITH THE SEED: the statements are not yours to turn. If you find one false, say at which input.
  Laid BY PROGRAM, IN A SANDBOX (cutbox-rows.mjs): the forced cells as the released guide's own fill.sh prints them over the translation 9b49809d4998ed7b… (all of the seat's roots in one cut). By AI agents, Wed Nov 11 2026. No macro, syntax, notation, axiom, sorry.
-/
import Derived.Test.YtidccehmegognaaChecked
import GoSem.Claim
import GoSem.ClaimJoined
import GoSem.ClaimMapViews
import Derived.JoinedTies
import Derived.KernelRfl
namespace Go.Proofs.Ytidccehmegognaa
/- THE CELL 'sum', in the pinned program and in every row, IS THE sha256 OF THE DUMP (.gsa) THAT YtidccehmegognaaProg.lean LOADS. Nothing in Lean hashes anything: it is a label: what it is worth is what the hold of that sum in a sandbox is worth. -/
noncomputable def Try.pinned : Pinned := { name := "ytidccehmegognaa", sum := "9b49809d4998ed7b2ac5bf514975d586ba9864abea01be6b5e4fe58beef50527", checked := Try.checked }
namespace Rows
def none {H : Type} : Left H := { results := [], args := [] }

/-- 'billetlaw03.TextKinds': WHATEVER THE INPUT: true; the input reads as it did. -/
def textKindsSpec : ChangeSpec := { name := "textKinds", fn := fun _ => fun
  | [d] => { results := [.lit (.bool true)], args := [d] }
  | _ => none }
def textKindsRow : OpenClaim := { program := "ytidccehmegognaa", sum := "9b49809d4998ed7b2ac5bf514975d586ba9864abea01be6b5e4fe58beef50527", func := "billet/billetlaw03.TextKinds", spec := "textKinds", inPlace := ["internal/abi.NoEscape"], apart := false }
def TextKindsSaid : Prop := textKindsRow.holds Try.pinned (OpenSpec.ofChange textKindsSpec)

/-- ITS FALSE NEIGHBOUR: 'it returns false'. Refute it at one input. -/
def textKindsWrong : ChangeSpec := { name := "textKinds", fn := fun _ => fun
  | [d] => { results := [.lit (.bool false)], args := [d] }
  | _ => none }
def TextKindsWrongFalsely : Prop := textKindsRow.holds Try.pinned (OpenSpec.ofChange textKindsWrong)

/-- 'billetlaw03.TextNames': WHATEVER THE INPUT: true; the input reads as it did. -/
def textNamesSpec : ChangeSpec := { name := "textNames", fn := fun _ => fun
  | [d] => { results := [.lit (.bool true)], args := [d] }
  | _ => none }
def textNamesRow : OpenClaim := { program := "ytidccehmegognaa", sum := "9b49809d4998ed7b2ac5bf514975d586ba9864abea01be6b5e4fe58beef50527", func := "billet/billetlaw03.TextNames", spec := "textNames", inPlace := ["internal/abi.NoEscape"], apart := false }
def TextNamesSaid : Prop := textNamesRow.holds Try.pinned (OpenSpec.ofChange textNamesSpec)

/-- ITS FALSE NEIGHBOUR: 'it returns false'. Refute it at one input. -/
def textNamesWrong : ChangeSpec := { name := "textNames", fn := fun _ => fun
  | [d] => { results := [.lit (.bool false)], args := [d] }
  | _ => none }
def TextNamesWrongFalsely : Prop := textNamesRow.holds Try.pinned (OpenSpec.ofChange textNamesWrong)

/-- 'billetlaw03.TextFolds': WHATEVER THE INPUT: true; the input reads as it did. -/
def textFoldsSpec : ChangeSpec := { name := "textFolds", fn := fun _ => fun
  | [d] => { results := [.lit (.bool true)], args := [d] }
  | _ => none }
def textFoldsRow : OpenClaim := { program := "ytidccehmegognaa", sum := "9b49809d4998ed7b2ac5bf514975d586ba9864abea01be6b5e4fe58beef50527", func := "billet/billetlaw03.TextFolds", spec := "textFolds", inPlace := ["internal/abi.NoEscape"], apart := false }
def TextFoldsSaid : Prop := textFoldsRow.holds Try.pinned (OpenSpec.ofChange textFoldsSpec)

/-- ITS FALSE NEIGHBOUR: 'it returns false'. Refute it at one input. -/
def textFoldsWrong : ChangeSpec := { name := "textFolds", fn := fun _ => fun
  | [d] => { results := [.lit (.bool false)], args := [d] }
  | _ => none }
def TextFoldsWrongFalsely : Prop := textFoldsRow.holds Try.pinned (OpenSpec.ofChange textFoldsWrong)

/-- 'billetlaw03.TextHeads': WHATEVER THE INPUT: true; the input reads as it did. -/
def textHeadsSpec : ChangeSpec := { name := "textHeads", fn := fun _ => fun
  | [d1, d2] => { results := [.lit (.bool true)], args := [d1, d2] }
  | _ => none }
def textHeadsRow : OpenClaim := { program := "ytidccehmegognaa", sum := "9b49809d4998ed7b2ac5bf514975d586ba9864abea01be6b5e4fe58beef50527", func := "billet/billetlaw03.TextHeads", spec := "textHeads", inPlace := ["internal/abi.NoEscape"], apart := false }
def TextHeadsSaid : Prop := textHeadsRow.holds Try.pinned (OpenSpec.ofChange textHeadsSpec)

/-- ITS FALSE NEIGHBOUR: 'it returns false'. Refute it at one input. -/
def textHeadsWrong : ChangeSpec := { name := "textHeads", fn := fun _ => fun
  | [d1, d2] => { results := [.lit (.bool false)], args := [d1, d2] }
  | _ => none }
def TextHeadsWrongFalsely : Prop := textHeadsRow.holds Try.pinned (OpenSpec.ofChange textHeadsWrong)

/- THE SECOND FORM. 'bulk': how many values and letters a reading holds, each counted each time it is reached (what is shared counts as often as it is met; a slice's spare places count too). A statement '..UptoSaid' is the law's where the arguments, and the package variables that the reading takes, are together of bulk at most 1048576: NARROWER than '..Said'. Prove '..Said' where nothing that the law and all that it calls make is longer than what came in: it says more and counts as full. Else prove '..UptoSaid'. A law counts once. -/
mutual
def uptoBulk {H : Type} : DataW H → Nat
  | .lit (.string bytes) => bytes.length + 1
  | .lit _ => 1
  | .nil => 1
  | .ptr d => uptoBulk d + 1
  | .slice elems spare => uptoBulkAll elems + uptoBulkAll spare + 1
  | .agg parts => uptoBulkAll parts + 1
  | .iface _ d => uptoBulk d + 1
  | .map entries => uptoBulkEntries entries + 1
  | .held _ => 1
def uptoBulkAll {H : Type} : List (DataW H) → Nat
  | [] => 0
  | d :: r => uptoBulk d + uptoBulkAll r
def uptoBulkEntries {H : Type} : List (Lit × DataW H) → Nat
  | [] => 0
  | x :: r => uptoBulkEntry x + uptoBulkEntries r
def uptoBulkEntry {H : Type} : Lit × DataW H → Nat
  | (.string bytes, d) => bytes.length + uptoBulk d + 1
  | (_, d) => uptoBulk d + 1
 end
def uptoSmall : (H : Type) → List (DataW H) → Bool := fun _ ds => decide (uptoBulkAll ds ≤ 1048576)
def OpenSpec.upto (s : _root_.Go.ChangeSpec) : _root_.Go.OpenSpec := { _root_.Go.OpenSpec.ofChange s with cond := some uptoSmall }

/-- 'billetlaw03.TextKinds', WHERE WHAT IT READS IS OF BULK AT MOST 1048576: true; the input reads as it did. -/
def textKindsUptoRow : OpenClaim := { program := "ytidccehmegognaa", sum := "9b49809d4998ed7b2ac5bf514975d586ba9864abea01be6b5e4fe58beef50527", func := "billet/billetlaw03.TextKinds", spec := "textKinds", inPlace := ["internal/abi.NoEscape"], apart := false, narrowed := true }
def TextKindsUptoSaid : Prop := textKindsUptoRow.holds Try.pinned (OpenSpec.upto textKindsSpec)

/-- 'billetlaw03.TextNames', WHERE WHAT IT READS IS OF BULK AT MOST 1048576: true; the input reads as it did. -/
def textNamesUptoRow : OpenClaim := { program := "ytidccehmegognaa", sum := "9b49809d4998ed7b2ac5bf514975d586ba9864abea01be6b5e4fe58beef50527", func := "billet/billetlaw03.TextNames", spec := "textNames", inPlace := ["internal/abi.NoEscape"], apart := false, narrowed := true }
def TextNamesUptoSaid : Prop := textNamesUptoRow.holds Try.pinned (OpenSpec.upto textNamesSpec)

/-- 'billetlaw03.TextFolds', WHERE WHAT IT READS IS OF BULK AT MOST 1048576: true; the input reads as it did. -/
def textFoldsUptoRow : OpenClaim := { program := "ytidccehmegognaa", sum := "9b49809d4998ed7b2ac5bf514975d586ba9864abea01be6b5e4fe58beef50527", func := "billet/billetlaw03.TextFolds", spec := "textFolds", inPlace := ["internal/abi.NoEscape"], apart := false, narrowed := true }
def TextFoldsUptoSaid : Prop := textFoldsUptoRow.holds Try.pinned (OpenSpec.upto textFoldsSpec)

/-- 'billetlaw03.TextHeads', WHERE WHAT IT READS IS OF BULK AT MOST 1048576: true; the input reads as it did. -/
def textHeadsUptoRow : OpenClaim := { program := "ytidccehmegognaa", sum := "9b49809d4998ed7b2ac5bf514975d586ba9864abea01be6b5e4fe58beef50527", func := "billet/billetlaw03.TextHeads", spec := "textHeads", inPlace := ["internal/abi.NoEscape"], apart := false, narrowed := true }
def TextHeadsUptoSaid : Prop := textHeadsUptoRow.holds Try.pinned (OpenSpec.upto textHeadsSpec)

end Rows
end Go.Proofs.Ytidccehmegognaa
