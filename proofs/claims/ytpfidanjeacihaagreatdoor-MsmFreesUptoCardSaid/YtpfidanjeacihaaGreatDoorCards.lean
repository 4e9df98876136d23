/-
  DERIVED. GIVEN WITH THE SEED: THE CARDS: each row of YtpfidanjeacihaaGreatDoorRows.lean that lists a variable, with what it lists TIED to the program's text (the seventh form; the later family's looks); each row that meets fmt, with fmt's text TOLD by the authors' own Lean function (tested against real Go, not proved from fmt's source: count such statements apart). THE CARD IS WHAT COUNTS. Prove the row's statement (the work); the ties are given (YtpfidanjeacihaaGreatDoorTie.lean); close each card by the builder's one call (the guide's Derived/Test/ToyasCard.lean, 'card_holds'). Laid BY PROGRAM, IN A SANDBOX (cutbox-door.mjs). By AI agents, Wed Nov 11 2026. No macro, syntax, notation, axiom, sorry.
-/
import Derived.Test.YtpfidanjeacihaaGreatDoorRows
import GoSem.ClaimSeven
namespace Go.Proofs.YtpfidanjeacihaaGreatDoor
namespace Rows

/-- THE TIED CARD OF 'veillaw07.MsmFrees'. -/
def msmFreesCard : Claim7 := { stood := { row := msmFreesRow, standIns := [], harness := (true, "ae0937c13d22a2bc8c8c35c8f63861189a1829a0543cc23af018a2fc986e4bad"), looks := false }, kinds := [], alts := [], laidByText := true, laidKinds := [.data, .data, .data, .data, .data, .data, .wider, .data], laidTests := true, laidLooks := .later }
def MsmFreesCardSaid : Prop := Claim7.holds Tryz.pinned (.plain (OpenSpec.ofChange msmFreesSpec)) msmFreesCard

/-- THE TIED CARD OF 'veillaw16.IdealBacks'. -/
def idealBacksCard : Claim7 := { stood := { row := idealBacksRow, standIns := [], harness := (true, "ae0937c13d22a2bc8c8c35c8f63861189a1829a0543cc23af018a2fc986e4bad"), looks := false }, kinds := [], alts := [], laidByText := true, laidKinds := [.data, .data, .wider, .data], laidTests := true, laidLooks := .later }
def IdealBacksCardSaid : Prop := Claim7.holds Tryz.pinned (.plain (OpenSpec.ofChange idealBacksSpec)) idealBacksCard

/-- THE SECOND FORM's CARD OF 'veillaw07.MsmFrees'. -/
def msmFreesUptoCard : Claim7 := { stood := { row := msmFreesUptoRow, standIns := [], harness := (true, "ae0937c13d22a2bc8c8c35c8f63861189a1829a0543cc23af018a2fc986e4bad"), looks := false }, kinds := [], alts := [], laidByText := true, laidKinds := [.data, .data, .data, .data, .data, .data, .wider, .data], laidTests := true, laidLooks := .later }
def MsmFreesUptoCardSaid : Prop := Claim7.holds Tryz.pinned (.plain (OpenSpec.upto msmFreesSpec)) msmFreesUptoCard

/-- THE SECOND FORM's CARD OF 'veillaw16.IdealBacks'. -/
def idealBacksUptoCard : Claim7 := { stood := { row := idealBacksUptoRow, standIns := [], harness := (true, "ae0937c13d22a2bc8c8c35c8f63861189a1829a0543cc23af018a2fc986e4bad"), looks := false }, kinds := [], alts := [], laidByText := true, laidKinds := [.data, .data, .wider, .data], laidTests := true, laidLooks := .later }
def IdealBacksUptoCardSaid : Prop := Claim7.holds Tryz.pinned (.plain (OpenSpec.upto idealBacksSpec)) idealBacksUptoCard
end Rows
end Go.Proofs.YtpfidanjeacihaaGreatDoor
