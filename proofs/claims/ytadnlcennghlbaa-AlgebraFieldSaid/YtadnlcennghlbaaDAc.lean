/-
  Polynomials, products, powers, inner products over Pair.
-/
import Derived.Test.YtadnlcennghlbaaDAb
namespace Go.Vc
open Go Go.Proofs Go.RowKit
section
variable {X : Ctx} {u : World} {v : Value} {l : List Z2} {i : Nat} {ow : List Nat} {K : Value → Prop}
end
section
variable {X : Ctx} {K : Value → Prop}
end
/-! ### Eval -/
/-! ### Inner -/
/-! ### Powers -/