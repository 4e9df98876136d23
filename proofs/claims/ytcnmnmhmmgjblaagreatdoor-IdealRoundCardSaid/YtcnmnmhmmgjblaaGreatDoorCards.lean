/-
  DERIVED. GIVEN WITH THE SEED: THE CARDS: each row of YtcnmnmhmmgjblaaGreatDoorRows.lean that lists a variable, with what it lists TIED to the program's text (the seventh form; the later family's looks); each row that meets fmt, with fmt's text TOLD by the authors' own Lean function (tested against real Go, not proved from fmt's source: count such statements apart). THE CARD IS WHAT COUNTS. Prove the row's statement (the work); the ties are given (YtcnmnmhmmgjblaaGreatDoorTie.lean); close each card by the builder's one call (the guide's Derived/Test/ToyasCard.lean, 'card_holds'). Laid BY PROGRAM, IN A SANDBOX (cutbox-door.mjs). By AI agents, Wed Nov 11 2026. No macro, syntax, notation, axiom, sorry.
-/
import Derived.Test.YtcnmnmhmmgjblaaGreatDoorRows
import GoSem.ClaimSeven
namespace Go.Proofs.YtcnmnmhmmgjblaaGreatDoor
namespace Rows

/-- THE TIED CARD OF 'veillaw16.IdealBacks'. -/
def idealBacksCard : Claim7 := { stood := { row := idealBacksRow, standIns := [], harness := (true, "f467427bf8c8d2c7ecca3aa7c5751b3ae4c485c94327191685fb277a8515df64"), looks := false }, kinds := [], alts := [], goes := true, laidByText := true, laidKinds := [.data, .data, .wider, .data], laidTests := true, laidLooks := .later }
def IdealBacksCardSaid : Prop := Claim7.holds Tryz.pinned (.plain (OpenSpec.ofChange idealBacksSpec)) idealBacksCard

/-- THE TIED CARD OF 'veillaw16.IdealAccepted'. -/
def idealAcceptedCard : Claim7 := { stood := { row := idealAcceptedRow, standIns := [], harness := (true, "f467427bf8c8d2c7ecca3aa7c5751b3ae4c485c94327191685fb277a8515df64"), looks := false }, kinds := [], alts := [], goes := true, laidByText := true, laidKinds := [.data], laidTests := true, laidLooks := .later }
def IdealAcceptedCardSaid : Prop := Claim7.holds Tryz.pinned (.plain (OpenSpec.ofChange idealAcceptedSpec)) idealAcceptedCard

/-- THE TIED CARD OF 'veillaw16.IdealRound'. -/
def idealRoundCard : Claim7 := { stood := { row := idealRoundRow, standIns := [], harness := (true, "f467427bf8c8d2c7ecca3aa7c5751b3ae4c485c94327191685fb277a8515df64"), looks := false }, kinds := [], alts := [], goes := true, laidByText := true, laidKinds := [.data], laidTests := true, laidLooks := .later }
def IdealRoundCardSaid : Prop := Claim7.holds Tryz.pinned (.plain (OpenSpec.ofChange idealRoundSpec)) idealRoundCard

/-- THE TIED CARD OF 'veillaw16.IdealSays'. -/
def idealSaysCard : Claim7 := { stood := { row := idealSaysRow, standIns := [], harness := (true, "f467427bf8c8d2c7ecca3aa7c5751b3ae4c485c94327191685fb277a8515df64"), looks := false }, kinds := [], alts := [], goes := true, laidByText := true, laidKinds := [.data], laidTests := true, laidLooks := .later }
def IdealSaysCardSaid : Prop := Claim7.holds Tryz.pinned (.plain (OpenSpec.ofChange idealSaysSpec)) idealSaysCard

/-- THE SECOND FORM's CARD OF 'veillaw16.IdealBacks'. -/
def idealBacksUptoCard : Claim7 := { stood := { row := idealBacksUptoRow, standIns := [], harness := (true, "f467427bf8c8d2c7ecca3aa7c5751b3ae4c485c94327191685fb277a8515df64"), looks := false }, kinds := [], alts := [], goes := true, laidByText := true, laidKinds := [.data, .data, .wider, .data], laidTests := true, laidLooks := .later }
def IdealBacksUptoCardSaid : Prop := Claim7.holds Tryz.pinned (.plain (OpenSpec.upto idealBacksSpec)) idealBacksUptoCard

/-- THE SECOND FORM's CARD OF 'veillaw16.IdealAccepted'. -/
def idealAcceptedUptoCard : Claim7 := { stood := { row := idealAcceptedUptoRow, standIns := [], harness := (true, "f467427bf8c8d2c7ecca3aa7c5751b3ae4c485c94327191685fb277a8515df64"), looks := false }, kinds := [], alts := [], goes := true, laidByText := true, laidKinds := [.data], laidTests := true, laidLooks := .later }
def IdealAcceptedUptoCardSaid : Prop := Claim7.holds Tryz.pinned (.plain (OpenSpec.upto idealAcceptedSpec)) idealAcceptedUptoCard

/-- THE SECOND FORM's CARD OF 'veillaw16.IdealRound'. -/
def idealRoundUptoCard : Claim7 := { stood := { row := idealRoundUptoRow, standIns := [], harness := (true, "f467427bf8c8d2c7ecca3aa7c5751b3ae4c485c94327191685fb277a8515df64"), looks := false }, kinds := [], alts := [], goes := true, laidByText := true, laidKinds := [.data], laidTests := true, laidLooks := .later }
def IdealRoundUptoCardSaid : Prop := Claim7.holds Tryz.pinned (.plain (OpenSpec.upto idealRoundSpec)) idealRoundUptoCard

/-- THE SECOND FORM's CARD OF 'veillaw16.IdealSays'. -/
def idealSaysUptoCard : Claim7 := { stood := { row := idealSaysUptoRow, standIns := [], harness := (true, "f467427bf8c8d2c7ecca3aa7c5751b3ae4c485c94327191685fb277a8515df64"), looks := false }, kinds := [], alts := [], goes := true, laidByText := true, laidKinds := [.data], laidTests := true, laidLooks := .later }
def IdealSaysUptoCardSaid : Prop := Claim7.holds Tryz.pinned (.plain (OpenSpec.upto idealSaysSpec)) idealSaysUptoCard
end Rows
end Go.Proofs.YtcnmnmhmmgjblaaGreatDoor
