/-
  Sets of generators over the scalars, and the document's: contracts.
-/
import Derived.Test.YtcnmnmhmmgjblaaGreatDoorDSig2
namespace Go.Vc
open Go Go.Proofs Go.RowKit
theorem tyS : ElTy Tryz.prog 28 29 4 32 (.agg #[U 0, U 0, U 0, U 0]) := ⟨by kernel_rfl, by kernel_rfl⟩
/-! ### sets with their lists -/
end Go.Vc
