/-
  Sets of generators over the scalars, and the document's: contracts.
-/
import Derived.Test.YtcnmnmhmmgjblaaGreatDoorDSig2
namespace Go.Vc
open Go Go.Proofs Go.RowKit
theorem aggL : agg? Tryz.prog 31 = some true := by kernel_rfl
theorem szL : sz Tryz.prog 31 = some 4 := by kernel_rfl
/-! ### sets with their lists -/
end Go.Vc
