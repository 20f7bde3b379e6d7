/- The statement on bounds: what is to be said. -/
import Derived.Test.YtogajmbkjojdhaaInvBnd2
set_option linter.unusedVariables false
namespace Go.Proofs.Ytogajmbkjojdhaa
open Go.RowKit

theorem invocBounds_of (w : World) (c : Cfg) (hin : c.In w) (v : Value) (A : List Ia) (hv : Reads iaR w v A) (hA : ∀ a ∈ A, IvIn a.x) (hAl : A.length ≤ 9223372036854775807) :
    Calls Try.prog 3 #[.agg c.cells.toArray, v] w fun e w' => e = .returned (.bool true) ∧ Below w.heap.size w w' := by
  by_cases hf : c.Few
  · by_cases hck : checkv c = 0
    · cases hlg : largeB c A with
      | false => exact bounds_go w c hin v A hv hA hAl hf hck hlg
      | true => exact bounds_large w c hin v A hv hA hAl hf hck hlg
    · exact bounds_nil w c hin v A hv hA hAl fun W hb => new31_no W c (hin.below hb) hf hck
  · exact bounds_nil w c hin v A hv hA hAl fun W hb => new31_big W c (hin.below hb) hf
end Go.Proofs.Ytogajmbkjojdhaa
