/-
  Both ways back say the same.
-/
import Derived.Test.YtcnmnmhmmgjblaaGreatDoorDIl
namespace Go.Vc
open Go Go.Proofs Go.RowKit
section
variable (q : BkP)
end
end Go.Vc
