/-
  What the rows of this seat share: the listed table, the reading's bulk, the frame.
-/
import Derived.Test.YtcnmnmhmmgjblaaGreatDoorDSig2
import Derived.Test.YtcnmnmhmmgjblaaGreatDoorVcRow
import Derived.Test.YtcnmnmhmmgjblaaGreatDoorCards
import Derived.Test.YtcnmnmhmmgjblaaGreatDoorTie
import Derived.ShutString
import Derived.ChangeOld
import Derived.WalkKit
import Derived.Deep.DeepHandedRow
namespace Go.Proofs.YtcnmnmhmmgjblaaGreatDoor
open Go.ChangeShapes Go.WideShapes Go.ChangeAt Go.WideMaps Go.WideElems Go.RowKit Go.Vc
theorem own : ownKnob Tryz.prog.godebug = none := by kernel_rfl
theorem laidOut : laidOutB Tryz.prog = true := by kernel_rfl
theorem cells_u64 : Tryz.prog.cellsOf 22 = 1 := by kernel_rfl
/-! ### bulk -/
/-! ### scalars, lists of scalars that come in -/
section
variable {H : Type} {enc : TypeId × Value → H} {W : World} {base : Nat} {spare : Nat → Bool} {held : Bool} {r : Reach} {b0 : Nat} {v : Value} {d : DataW H} {p : List MemPlace}
end
end Go.Proofs.YtcnmnmhmmgjblaaGreatDoor
