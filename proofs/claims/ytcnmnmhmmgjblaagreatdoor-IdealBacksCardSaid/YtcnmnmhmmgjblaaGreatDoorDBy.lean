/-
  Bytes: BS n is the array of n's 32 bytes. The program's and the document's Encode, Decode.
-/
import Derived.Test.YtcnmnmhmmgjblaaGreatDoorDProd
namespace Go.Vc
open Go Go.Proofs Go.RowKit
def B (n : Nat) : Value := .int .u8 n
section
variable {K : Value → Prop}
end
/-! ### the program's bytes -/
/-! ### the document's bytes -/
end Go.Vc
