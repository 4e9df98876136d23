/-
  What a sum costs at most, on both sides.
-/
import Derived.Test.YtcnmnmhmmgjblaaGreatDoorDSig2
import Derived.Test.YtcnmnmhmmgjblaaGreatDoorVcMut
namespace Go.Vc
open Go Go.Proofs Go.RowKit
end Go.Vc
