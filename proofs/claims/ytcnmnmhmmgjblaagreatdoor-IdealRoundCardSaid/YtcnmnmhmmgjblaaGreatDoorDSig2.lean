/-
  isLines, isClaim, SigmaClaims: walked.
-/
import Derived.Test.YtcnmnmhmmgjblaaGreatDoorDSig
namespace Go.Vc
open Go Go.Proofs Go.RowKit
theorem a4S : A4 Tryz.prog 29 22 := ⟨by kernel_rfl, by kernel_rfl, by kernel_rfl, by kernel_rfl⟩
theorem aggS : agg? Tryz.prog 29 = some true := by kernel_rfl
theorem szS : sz Tryz.prog 29 = some 4 := by kernel_rfl
theorem fdLine : FdTy Tryz.prog 31 0 0 := ⟨3, by kernel_rfl⟩
end Go.Vc
