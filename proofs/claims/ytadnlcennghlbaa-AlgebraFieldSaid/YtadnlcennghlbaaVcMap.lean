/-
  Rules for maps with plain keys.
-/
import Derived.Test.YtadnlcennghlbaaVcEasy
import Derived.MapKept
import Derived.Carry
namespace Go.Vc
open Go Go.RowKit
section
variable {X : Ctx} {P : Program} {u : World} {ow : List Nat} {bl : List KB} {KW : Value → World → Prop}
end
end Go.Vc
