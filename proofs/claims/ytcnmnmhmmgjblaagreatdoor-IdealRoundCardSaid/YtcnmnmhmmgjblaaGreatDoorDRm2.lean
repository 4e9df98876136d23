/-
  The document's product of scalars.
-/
import Derived.Test.YtcnmnmhmmgjblaaGreatDoorDRm
namespace Go.Vc
open Go Go.Proofs Go.RowKit
end Go.Vc
