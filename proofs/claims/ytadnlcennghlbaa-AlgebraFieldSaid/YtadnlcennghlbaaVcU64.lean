/-
  Rules for uint64, by natural numbers.
-/
import Derived.Test.YtadnlcennghlbaaVcSpec
import Derived.Laws.Externs
import Derived.Shelf.Spec.BitsCarry
namespace Go.Vc
open Go Go.RowKit Go.Proofs
/-- A natural number as an int. -/
abbrev J (n : Nat) : Value := .int .i64 (n : Int)
section
variable {P : Program} {K : Value → Prop}
variable {t : TypeId} {cx cy : Bool} {a b : Nat}
end
end Go.Vc
