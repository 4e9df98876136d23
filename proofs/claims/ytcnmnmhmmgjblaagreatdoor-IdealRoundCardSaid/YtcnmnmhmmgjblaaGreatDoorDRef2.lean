/-
  The document's least scalar (veilref02.words, Least): contracts by numbers.
-/
import Derived.Test.YtcnmnmhmmgjblaaGreatDoorDRef
namespace Go.Vc
open Go Go.Proofs Go.RowKit
abbrev enc1 (n : Nat) : List Value := [S n]
theorem inj1 (a b : Nat) (ha : a < W256) (hb : b < W256) (h : enc1 a = enc1 b) : a = b := S_inj ha hb (by simpa [enc1] using h)
end Go.Vc
