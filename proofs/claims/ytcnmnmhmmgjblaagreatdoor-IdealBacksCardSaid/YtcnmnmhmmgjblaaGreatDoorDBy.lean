/-
  Bytes: BS n is the array of n's 32 bytes. The program's and the document's Encode, Decode.
-/
import Derived.Test.YtcnmnmhmmgjblaaGreatDoorDProd
namespace Go.Vc
open Go Go.Proofs Go.RowKit
def B (n : Nat) : Value := .int .u8 n
/-- Byte i of n. -/
/-- Any 32 bytes are a number's. -/
/-- Thirty-two bytes as an argument. -/
section
variable {K : Value → Prop}
/-- One byte more, the lowest first. -/
/-- One byte more, the highest first. -/
/-- A byte of a limb. -/
end
/-! ### the program's bytes -/
/-! ### the document's bytes -/
end Go.Vc
