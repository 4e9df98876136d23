/-
  The document's scalars: Int, Add, Neg, IsZero, halves, Mul by numbers.
-/
import Derived.Test.YtcnmnmhmmgjblaaGreatDoorDBy
namespace Go.Vc
open Go Go.Proofs Go.RowKit
def cRInt : Contract := fnP (fun n : Nat => [U n]) (· < B64) (fun n v => v = S n)
theorem S_small {n : Nat} (h : n < B64) : Value.agg #[U n, U 0, U 0, U 0] = S n := by
  have z : 0 < B64 := by decide
  rw [S_of h z z z]
  simp
/-! ### the product -/
section
variable {K : Value → Prop} {P : Program}
end
end Go.Vc
