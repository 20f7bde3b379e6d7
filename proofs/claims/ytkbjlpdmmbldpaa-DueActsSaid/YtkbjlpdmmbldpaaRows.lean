/-
  No cell of these rows narrows 'for every input' (looked for: loops, veiled, ifaces, maps, wideKeys, modest, calm, conditions, laid).
  DERIVED. THE GIVEN ROWS OF THIS SEAT. 6 by the template 'for every input the law returns true; each argument reads behind the call as it read before'; 0 by the template 'total and deterministic' (their statements: YtkbjlpdmmbldpaaTotals.lean).
  GIVEN WITH THE SEED: the statements are not yours to turn. If you find one false, say at which input.
  Laid BY PROGRAM, IN A SANDBOX (cutbox-rows.mjs): the forced cells as the released guide's own fill.sh prints them over the translation c8bc2ac83cc50280… (all of the seat's roots in one cut). By AI agents, Wed Nov 11 2026. No macro, syntax, notation, axiom, sorry.
-/
import Derived.Test.YtkbjlpdmmbldpaaChecked
import GoSem.Claim
import GoSem.ClaimJoined
import GoSem.ClaimMapViews
import Derived.JoinedTies
import Derived.KernelRfl
namespace Go.Proofs.Ytkbjlpdmmbldpaa
/- THE CELL 'sum', in the pinned program and in every row, IS THE sha256 OF THE DUMP (.gsa) THAT YtkbjlpdmmbldpaaProg.lean LOADS. Nothing in Lean hashes anything: it is a label: what it is worth is what the hold of that sum in a sandbox is worth. -/
noncomputable def Try.pinned : Pinned := { name := "ytkbjlpdmmbldpaa", sum := "c8bc2ac83cc50280ad2764048eca9047dede50e1bf5b3728ac07427570290dd3", checked := Try.checked }
namespace Rows
def none {H : Type} : Left H := { results := [], args := [] }

/-- 'billetlaw08.WheelPieces': WHATEVER THE INPUT: true; the input reads as it did. -/
def wheelPiecesSpec : ChangeSpec := { name := "wheelPieces", fn := fun _ => fun
  | [d1, d2, d3] => { results := [.lit (.bool true)], args := [d1, d2, d3] }
  | _ => none }
def wheelPiecesRow : OpenClaim := { program := "ytkbjlpdmmbldpaa", sum := "c8bc2ac83cc50280ad2764048eca9047dede50e1bf5b3728ac07427570290dd3", func := "billet/billetlaw08.WheelPieces", spec := "wheelPieces", unfollowed := true, recurses := true, apart := false }
def WheelPiecesSaid : Prop := wheelPiecesRow.holds Try.pinned (OpenSpec.ofChange wheelPiecesSpec)

/-- ITS FALSE NEIGHBOUR: 'it returns false'. Refute it at one input. -/
def wheelPiecesWrong : ChangeSpec := { name := "wheelPieces", fn := fun _ => fun
  | [d1, d2, d3] => { results := [.lit (.bool false)], args := [d1, d2, d3] }
  | _ => none }
def WheelPiecesWrongFalsely : Prop := wheelPiecesRow.holds Try.pinned (OpenSpec.ofChange wheelPiecesWrong)

/-- 'billetlaw08.WheelActs': WHATEVER THE INPUT: true; the input reads as it did. -/
def wheelActsSpec : ChangeSpec := { name := "wheelActs", fn := fun _ => fun
  | [d1, d2] => { results := [.lit (.bool true)], args := [d1, d2] }
  | _ => none }
def wheelActsRow : OpenClaim := { program := "ytkbjlpdmmbldpaa", sum := "c8bc2ac83cc50280ad2764048eca9047dede50e1bf5b3728ac07427570290dd3", func := "billet/billetlaw08.WheelActs", spec := "wheelActs", unfollowed := true, recurses := true, apart := false }
def WheelActsSaid : Prop := wheelActsRow.holds Try.pinned (OpenSpec.ofChange wheelActsSpec)

/-- ITS FALSE NEIGHBOUR: 'it returns false'. Refute it at one input. -/
def wheelActsWrong : ChangeSpec := { name := "wheelActs", fn := fun _ => fun
  | [d1, d2] => { results := [.lit (.bool false)], args := [d1, d2] }
  | _ => none }
def WheelActsWrongFalsely : Prop := wheelActsRow.holds Try.pinned (OpenSpec.ofChange wheelActsWrong)

/-- 'billetlaw08.WheelNil': WHATEVER THE INPUT: true; the input reads as it did. -/
def wheelNilSpec : ChangeSpec := { name := "wheelNil", fn := fun _ => fun
  | [d1, d2] => { results := [.lit (.bool true)], args := [d1, d2] }
  | _ => none }
def wheelNilRow : OpenClaim := { program := "ytkbjlpdmmbldpaa", sum := "c8bc2ac83cc50280ad2764048eca9047dede50e1bf5b3728ac07427570290dd3", func := "billet/billetlaw08.WheelNil", spec := "wheelNil", unfollowed := true, recurses := true, apart := false }
def WheelNilSaid : Prop := wheelNilRow.holds Try.pinned (OpenSpec.ofChange wheelNilSpec)

/-- ITS FALSE NEIGHBOUR: 'it returns false'. Refute it at one input. -/
def wheelNilWrong : ChangeSpec := { name := "wheelNil", fn := fun _ => fun
  | [d1, d2] => { results := [.lit (.bool false)], args := [d1, d2] }
  | _ => none }
def WheelNilWrongFalsely : Prop := wheelNilRow.holds Try.pinned (OpenSpec.ofChange wheelNilWrong)

/-- 'billetlaw09.DueOrder': WHATEVER THE INPUT: true; the input reads as it did. -/
def dueOrderSpec : ChangeSpec := { name := "dueOrder", fn := fun _ => fun
  | [d1, d2, d3] => { results := [.lit (.bool true)], args := [d1, d2, d3] }
  | _ => none }
def dueOrderRow : OpenClaim := { program := "ytkbjlpdmmbldpaa", sum := "c8bc2ac83cc50280ad2764048eca9047dede50e1bf5b3728ac07427570290dd3", func := "billet/billetlaw09.DueOrder", spec := "dueOrder", unfollowed := true, recurses := true, apart := false }
def DueOrderSaid : Prop := dueOrderRow.holds Try.pinned (OpenSpec.ofChange dueOrderSpec)

/-- ITS FALSE NEIGHBOUR: 'it returns false'. Refute it at one input. -/
def dueOrderWrong : ChangeSpec := { name := "dueOrder", fn := fun _ => fun
  | [d1, d2, d3] => { results := [.lit (.bool false)], args := [d1, d2, d3] }
  | _ => none }
def DueOrderWrongFalsely : Prop := dueOrderRow.holds Try.pinned (OpenSpec.ofChange dueOrderWrong)

/-- 'billetlaw09.DueActs': WHATEVER THE INPUT: true; the input reads as it did. -/
def dueActsSpec : ChangeSpec := { name := "dueActs", fn := fun _ => fun
  | [d1, d2] => { results := [.lit (.bool true)], args := [d1, d2] }
  | _ => none }
def dueActsRow : OpenClaim := { program := "ytkbjlpdmmbldpaa", sum := "c8bc2ac83cc50280ad2764048eca9047dede50e1bf5b3728ac07427570290dd3", func := "billet/billetlaw09.DueActs", spec := "dueActs", unfollowed := true, recurses := true, apart := false }
def DueActsSaid : Prop := dueActsRow.holds Try.pinned (OpenSpec.ofChange dueActsSpec)

/-- ITS FALSE NEIGHBOUR: 'it returns false'. Refute it at one input. -/
def dueActsWrong : ChangeSpec := { name := "dueActs", fn := fun _ => fun
  | [d1, d2] => { results := [.lit (.bool false)], args := [d1, d2] }
  | _ => none }
def DueActsWrongFalsely : Prop := dueActsRow.holds Try.pinned (OpenSpec.ofChange dueActsWrong)

/-- 'billetlaw09.DueNil': WHATEVER THE INPUT: true; the input reads as it did. -/
def dueNilSpec : ChangeSpec := { name := "dueNil", fn := fun _ => fun
  | [d] => { results := [.lit (.bool true)], args := [d] }
  | _ => none }
def dueNilRow : OpenClaim := { program := "ytkbjlpdmmbldpaa", sum := "c8bc2ac83cc50280ad2764048eca9047dede50e1bf5b3728ac07427570290dd3", func := "billet/billetlaw09.DueNil", spec := "dueNil", unfollowed := true, recurses := true, apart := false }
def DueNilSaid : Prop := dueNilRow.holds Try.pinned (OpenSpec.ofChange dueNilSpec)

/-- ITS FALSE NEIGHBOUR: 'it returns false'. Refute it at one input. -/
def dueNilWrong : ChangeSpec := { name := "dueNil", fn := fun _ => fun
  | [d] => { results := [.lit (.bool false)], args := [d] }
  | _ => none }
def DueNilWrongFalsely : Prop := dueNilRow.holds Try.pinned (OpenSpec.ofChange dueNilWrong)

/- THE SECOND FORM. 'bulk': how many values and letters a reading holds, each counted each time it is reached (what is shared counts as often as it is met; a slice's spare places count too). A statement '..UptoSaid' is the law's where the arguments, and the package variables that the reading takes, are together of bulk at most 1048576: NARROWER than '..Said'. Prove '..Said' where nothing that the law and all that it calls make is longer than what came in: it says more and counts as full. Else prove '..UptoSaid'. A law counts once. -/
mutual
def uptoBulk {H : Type} : DataW H → Nat
  | .lit (.string bytes) => bytes.length + 1
  | .lit _ => 1
  | .nil => 1
  | .ptr d => uptoBulk d + 1
  | .slice elems spare => uptoBulkAll elems + uptoBulkAll spare + 1
  | .agg parts => uptoBulkAll parts + 1
  | .iface _ d => uptoBulk d + 1
  | .map entries => uptoBulkEntries entries + 1
  | .held _ => 1
def uptoBulkAll {H : Type} : List (DataW H) → Nat
  | [] => 0
  | d :: r => uptoBulk d + uptoBulkAll r
def uptoBulkEntries {H : Type} : List (Lit × DataW H) → Nat
  | [] => 0
  | x :: r => uptoBulkEntry x + uptoBulkEntries r
def uptoBulkEntry {H : Type} : Lit × DataW H → Nat
  | (.string bytes, d) => bytes.length + uptoBulk d + 1
  | (_, d) => uptoBulk d + 1
 end
def uptoSmall : (H : Type) → List (DataW H) → Bool := fun _ ds => decide (uptoBulkAll ds ≤ 1048576)
def OpenSpec.upto (s : _root_.Go.ChangeSpec) : _root_.Go.OpenSpec := { _root_.Go.OpenSpec.ofChange s with cond := some uptoSmall }

/-- 'billetlaw08.WheelPieces', WHERE WHAT IT READS IS OF BULK AT MOST 1048576: true; the input reads as it did. -/
def wheelPiecesUptoRow : OpenClaim := { program := "ytkbjlpdmmbldpaa", sum := "c8bc2ac83cc50280ad2764048eca9047dede50e1bf5b3728ac07427570290dd3", func := "billet/billetlaw08.WheelPieces", spec := "wheelPieces", unfollowed := true, recurses := true, apart := false, narrowed := true }
def WheelPiecesUptoSaid : Prop := wheelPiecesUptoRow.holds Try.pinned (OpenSpec.upto wheelPiecesSpec)

/-- 'billetlaw08.WheelActs', WHERE WHAT IT READS IS OF BULK AT MOST 1048576: true; the input reads as it did. -/
def wheelActsUptoRow : OpenClaim := { program := "ytkbjlpdmmbldpaa", sum := "c8bc2ac83cc50280ad2764048eca9047dede50e1bf5b3728ac07427570290dd3", func := "billet/billetlaw08.WheelActs", spec := "wheelActs", unfollowed := true, recurses := true, apart := false, narrowed := true }
def WheelActsUptoSaid : Prop := wheelActsUptoRow.holds Try.pinned (OpenSpec.upto wheelActsSpec)

/-- 'billetlaw08.WheelNil', WHERE WHAT IT READS IS OF BULK AT MOST 1048576: true; the input reads as it did. -/
def wheelNilUptoRow : OpenClaim := { program := "ytkbjlpdmmbldpaa", sum := "c8bc2ac83cc50280ad2764048eca9047dede50e1bf5b3728ac07427570290dd3", func := "billet/billetlaw08.WheelNil", spec := "wheelNil", unfollowed := true, recurses := true, apart := false, narrowed := true }
def WheelNilUptoSaid : Prop := wheelNilUptoRow.holds Try.pinned (OpenSpec.upto wheelNilSpec)

/-- 'billetlaw09.DueOrder', WHERE WHAT IT READS IS OF BULK AT MOST 1048576: true; the input reads as it did. -/
def dueOrderUptoRow : OpenClaim := { program := "ytkbjlpdmmbldpaa", sum := "c8bc2ac83cc50280ad2764048eca9047dede50e1bf5b3728ac07427570290dd3", func := "billet/billetlaw09.DueOrder", spec := "dueOrder", unfollowed := true, recurses := true, apart := false, narrowed := true }
def DueOrderUptoSaid : Prop := dueOrderUptoRow.holds Try.pinned (OpenSpec.upto dueOrderSpec)

/-- 'billetlaw09.DueActs', WHERE WHAT IT READS IS OF BULK AT MOST 1048576: true; the input reads as it did. -/
def dueActsUptoRow : OpenClaim := { program := "ytkbjlpdmmbldpaa", sum := "c8bc2ac83cc50280ad2764048eca9047dede50e1bf5b3728ac07427570290dd3", func := "billet/billetlaw09.DueActs", spec := "dueActs", unfollowed := true, recurses := true, apart := false, narrowed := true }
def DueActsUptoSaid : Prop := dueActsUptoRow.holds Try.pinned (OpenSpec.upto dueActsSpec)

/-- 'billetlaw09.DueNil', WHERE WHAT IT READS IS OF BULK AT MOST 1048576: true; the input reads as it did. -/
def dueNilUptoRow : OpenClaim := { program := "ytkbjlpdmmbldpaa", sum := "c8bc2ac83cc50280ad2764048eca9047dede50e1bf5b3728ac07427570290dd3", func := "billet/billetlaw09.DueNil", spec := "dueNil", unfollowed := true, recurses := true, apart := false, narrowed := true }
def DueNilUptoSaid : Prop := dueNilUptoRow.holds Try.pinned (OpenSpec.upto dueNilSpec)

end Rows
end Go.Proofs.Ytkbjlpdmmbldpaa
