/-
  Lists with a mark behind them; terms of two lists.
-/
import Derived.Test.YtcnmnmhmmgjblaaGreatDoorDGen
import Derived.Test.YtcnmnmhmmgjblaaGreatDoorDZip
namespace Go.Vc
open Go Go.Proofs Go.RowKit
/-! ### a list with a mark behind it -/
/-! ### terms -/
def encT (p : Nat × Nat) : List Value := encS p.1 ++ encS p.2
theorem encT_len (p : Nat × Nat) : (encT p).length = 8 := rfl
theorem tyT : ElTy Tryz.prog 143 142 8 64 (.agg #[U 0, U 0, U 0, U 0, U 0, U 0, U 0, U 0]) := ⟨by kernel_rfl, by kernel_rfl⟩
theorem szT : sz Tryz.prog 142 = some 8 := by kernel_rfl
theorem aggT : agg? Tryz.prog 142 = some true := by kernel_rfl
end Go.Vc
