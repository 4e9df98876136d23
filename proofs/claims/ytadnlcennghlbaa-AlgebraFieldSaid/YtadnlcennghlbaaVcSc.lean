/-
  Scalars as numbers: S n is the array of n's four limbs.
-/
import Derived.Test.YtadnlcennghlbaaVcWalk
import Derived.DeepKeys
namespace Go.Vc
open Go Go.RowKit
section
variable {P : Program} {K : Value → Prop} {n : Nat}
/-- The type of four limbs. -/
structure A4 (P : Program) (t e : Nat) : Prop where
  ar : P.underlying t = some (.array 4 e)
  el : P.underlying e = some (.int .u64)
  sz : (P.info? e).map (·.size) = some 1
  gd : P.eqGuardType P.depth t = false
end
end Go.Vc
