/-
  DERIVED. GIVEN WITH THE SEED: THE CARDS: each row of YtapkkciimlffnaaGreatDoorRows.lean that lists a variable, with what it lists TIED to the program's text (the seventh form; the later family's looks); each row that meets fmt, with fmt's text TOLD by the authors' own Lean function (tested against real Go, not proved from fmt's source: count such statements apart). THE CARD IS WHAT COUNTS. Prove the row's statement (the work); the ties are given (YtapkkciimlffnaaGreatDoorTie.lean); close each card by the builder's one call (the guide's Derived/Test/ToyasCard.lean, 'card_holds'). Laid BY PROGRAM, IN A SANDBOX (cutbox-door.mjs). By AI agents, Wed Nov 11 2026. No macro, syntax, notation, axiom, sorry.
-/
import Derived.Test.YtapkkciimlffnaaGreatDoorRows
import GoSem.ClaimSeven
namespace Go.Proofs.YtapkkciimlffnaaGreatDoor
namespace Rows

/-- THE TIED CARD OF 'veillaw11.SigmaSole'. -/
def sigmaSoleCard : Claim7 := { stood := { row := sigmaSoleRow, standIns := [], harness := (true, "43dd054741915d9d1d77db08bce03ad954c7603e979f02b968acc81fee6adad8"), looks := true }, kinds := [], alts := [], goes := true, laidByText := true, laidKinds := [.data], laidTests := true, laidLooks := .later }
def SigmaSoleCardSaid : Prop := Claim7.holds Tryz.pinned (.plain (OpenSpec.ofChange sigmaSoleSpec)) sigmaSoleCard

/-- THE TIED CARD OF 'veillaw16.IdealAccepted'. -/
def idealAcceptedCard : Claim7 := { stood := { row := idealAcceptedRow, standIns := [], harness := (true, "43dd054741915d9d1d77db08bce03ad954c7603e979f02b968acc81fee6adad8"), looks := true }, kinds := [], alts := [], goes := true, laidByText := true, laidKinds := [.data], laidTests := true, laidLooks := .later }
def IdealAcceptedCardSaid : Prop := Claim7.holds Tryz.pinned (.plain (OpenSpec.ofChange idealAcceptedSpec)) idealAcceptedCard

/-- THE TIED CARD OF 'veillaw16.IdealRound'. -/
def idealRoundCard : Claim7 := { stood := { row := idealRoundRow, standIns := [], harness := (true, "43dd054741915d9d1d77db08bce03ad954c7603e979f02b968acc81fee6adad8"), looks := true }, kinds := [], alts := [], goes := true, laidByText := true, laidKinds := [.data], laidTests := true, laidLooks := .later }
def IdealRoundCardSaid : Prop := Claim7.holds Tryz.pinned (.plain (OpenSpec.ofChange idealRoundSpec)) idealRoundCard

/-- THE TIED CARD OF 'veillaw16.IdealSays'. -/
def idealSaysCard : Claim7 := { stood := { row := idealSaysRow, standIns := [], harness := (true, "43dd054741915d9d1d77db08bce03ad954c7603e979f02b968acc81fee6adad8"), looks := true }, kinds := [], alts := [], goes := true, laidByText := true, laidKinds := [.data], laidTests := true, laidLooks := .later }
def IdealSaysCardSaid : Prop := Claim7.holds Tryz.pinned (.plain (OpenSpec.ofChange idealSaysSpec)) idealSaysCard

/-- THE SECOND FORM's CARD OF 'veillaw11.SigmaSole'. -/
def sigmaSoleUptoCard : Claim7 := { stood := { row := sigmaSoleUptoRow, standIns := [], harness := (true, "43dd054741915d9d1d77db08bce03ad954c7603e979f02b968acc81fee6adad8"), looks := true }, kinds := [], alts := [], goes := true, laidByText := true, laidKinds := [.data], laidTests := true, laidLooks := .later }
def SigmaSoleUptoCardSaid : Prop := Claim7.holds Tryz.pinned (.plain (OpenSpec.upto sigmaSoleSpec)) sigmaSoleUptoCard

/-- THE SECOND FORM's CARD OF 'veillaw16.IdealAccepted'. -/
def idealAcceptedUptoCard : Claim7 := { stood := { row := idealAcceptedUptoRow, standIns := [], harness := (true, "43dd054741915d9d1d77db08bce03ad954c7603e979f02b968acc81fee6adad8"), looks := true }, kinds := [], alts := [], goes := true, laidByText := true, laidKinds := [.data], laidTests := true, laidLooks := .later }
def IdealAcceptedUptoCardSaid : Prop := Claim7.holds Tryz.pinned (.plain (OpenSpec.upto idealAcceptedSpec)) idealAcceptedUptoCard

/-- THE SECOND FORM's CARD OF 'veillaw16.IdealRound'. -/
def idealRoundUptoCard : Claim7 := { stood := { row := idealRoundUptoRow, standIns := [], harness := (true, "43dd054741915d9d1d77db08bce03ad954c7603e979f02b968acc81fee6adad8"), looks := true }, kinds := [], alts := [], goes := true, laidByText := true, laidKinds := [.data], laidTests := true, laidLooks := .later }
def IdealRoundUptoCardSaid : Prop := Claim7.holds Tryz.pinned (.plain (OpenSpec.upto idealRoundSpec)) idealRoundUptoCard

/-- THE SECOND FORM's CARD OF 'veillaw16.IdealSays'. -/
def idealSaysUptoCard : Claim7 := { stood := { row := idealSaysUptoRow, standIns := [], harness := (true, "43dd054741915d9d1d77db08bce03ad954c7603e979f02b968acc81fee6adad8"), looks := true }, kinds := [], alts := [], goes := true, laidByText := true, laidKinds := [.data], laidTests := true, laidLooks := .later }
def IdealSaysUptoCardSaid : Prop := Claim7.holds Tryz.pinned (.plain (OpenSpec.upto idealSaysSpec)) idealSaysUptoCard
end Rows
end Go.Proofs.YtapkkciimlffnaaGreatDoor
