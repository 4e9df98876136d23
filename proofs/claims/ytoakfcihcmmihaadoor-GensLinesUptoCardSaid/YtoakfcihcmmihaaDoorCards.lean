/-
  DERIVED. GIVEN WITH THE SEED: THE CARDS: each row of YtoakfcihcmmihaaDoorRows.lean that lists a variable, with what it lists TIED to the program's text (the seventh form; the later family's looks); each row that meets fmt, with fmt's text TOLD by the authors' own Lean function (tested against real Go, not proved from fmt's source: count such statements apart). THE CARD IS WHAT COUNTS. Prove the row's statement (the work); the ties are given (YtoakfcihcmmihaaDoorTie.lean); close each card by the builder's one call (the guide's Derived/Test/ToyasCard.lean, 'card_holds'). Laid BY PROGRAM, IN A SANDBOX (cutbox-door.mjs). By AI agents, Wed Nov 11 2026. No macro, syntax, notation, axiom, sorry.
-/
import Derived.Test.YtoakfcihcmmihaaDoorRows
import GoSem.ClaimSeven
namespace Go.Proofs.YtoakfcihcmmihaaDoor
namespace Rows

/-- THE TIED CARD OF 'veillaw11.SigmaClaims'. -/
def sigmaClaimsCard : Claim7 := { stood := { row := sigmaClaimsRow, standIns := [], harness := (true, "439b99a35e60800ffd1fbba94ecfece794de37d445ac200a68d4dceba02520e9"), looks := false }, kinds := [], alts := [], laidByText := true, laidKinds := [.data], laidTests := true, laidLooks := .later }
def SigmaClaimsCardSaid : Prop := Claim7.holds Tryd.pinned (.plain (OpenSpec.ofChange sigmaClaimsSpec)) sigmaClaimsCard

/-- THE TIED CARD OF 'veillaw09.GensParts'. -/
def gensPartsCard : Claim7 := { stood := { row := gensPartsRow, standIns := [], harness := (true, "439b99a35e60800ffd1fbba94ecfece794de37d445ac200a68d4dceba02520e9"), looks := false }, kinds := [], alts := [], laidByText := true, laidKinds := [.data], laidTests := true, laidLooks := .later }
def GensPartsCardSaid : Prop := Claim7.holds Tryd.pinned (.plain (OpenSpec.ofChange gensPartsSpec)) gensPartsCard

/-- THE TIED CARD OF 'veillaw09.GensBases'. -/
def gensBasesCard : Claim7 := { stood := { row := gensBasesRow, standIns := [], harness := (true, "439b99a35e60800ffd1fbba94ecfece794de37d445ac200a68d4dceba02520e9"), looks := false }, kinds := [], alts := [], laidByText := true, laidKinds := [.data], laidTests := true, laidLooks := .later }
def GensBasesCardSaid : Prop := Claim7.holds Tryd.pinned (.plain (OpenSpec.ofChange gensBasesSpec)) gensBasesCard

/-- THE TIED CARD OF 'veillaw07.MsmZips'. -/
def msmZipsCard : Claim7 := { stood := { row := msmZipsRow, standIns := [], harness := (true, "439b99a35e60800ffd1fbba94ecfece794de37d445ac200a68d4dceba02520e9"), looks := false }, kinds := [], alts := [], laidByText := true, laidKinds := [.data], laidTests := true, laidLooks := .later }
def MsmZipsCardSaid : Prop := Claim7.holds Tryd.pinned (.plain (OpenSpec.ofChange msmZipsSpec)) msmZipsCard

/-- THE TIED CARD OF 'veillaw07.MsmLines'. -/
def msmLinesCard : Claim7 := { stood := { row := msmLinesRow, standIns := [], harness := (true, "439b99a35e60800ffd1fbba94ecfece794de37d445ac200a68d4dceba02520e9"), looks := false }, kinds := [], alts := [], laidByText := true, laidKinds := [.data, .data, .data, .data, .wider, .data], laidTests := true, laidLooks := .later }
def MsmLinesCardSaid : Prop := Claim7.holds Tryd.pinned (.plain (OpenSpec.ofChange msmLinesSpec)) msmLinesCard

/-- THE TIED CARD OF 'veillaw09.GensLines'. -/
def gensLinesCard : Claim7 := { stood := { row := gensLinesRow, standIns := [], harness := (true, "439b99a35e60800ffd1fbba94ecfece794de37d445ac200a68d4dceba02520e9"), looks := false }, kinds := [], alts := [], laidByText := true, laidKinds := [.data, .data, .data, .data, .data], laidTests := true, laidLooks := .later }
def GensLinesCardSaid : Prop := Claim7.holds Tryd.pinned (.plain (OpenSpec.ofChange gensLinesSpec)) gensLinesCard

/-- THE SECOND FORM's CARD OF 'veillaw11.SigmaClaims'. -/
def sigmaClaimsUptoCard : Claim7 := { stood := { row := sigmaClaimsUptoRow, standIns := [], harness := (true, "439b99a35e60800ffd1fbba94ecfece794de37d445ac200a68d4dceba02520e9"), looks := false }, kinds := [], alts := [], laidByText := true, laidKinds := [.data], laidTests := true, laidLooks := .later }
def SigmaClaimsUptoCardSaid : Prop := Claim7.holds Tryd.pinned (.plain (OpenSpec.upto sigmaClaimsSpec)) sigmaClaimsUptoCard

/-- THE SECOND FORM's CARD OF 'veillaw09.GensParts'. -/
def gensPartsUptoCard : Claim7 := { stood := { row := gensPartsUptoRow, standIns := [], harness := (true, "439b99a35e60800ffd1fbba94ecfece794de37d445ac200a68d4dceba02520e9"), looks := false }, kinds := [], alts := [], laidByText := true, laidKinds := [.data], laidTests := true, laidLooks := .later }
def GensPartsUptoCardSaid : Prop := Claim7.holds Tryd.pinned (.plain (OpenSpec.upto gensPartsSpec)) gensPartsUptoCard

/-- THE SECOND FORM's CARD OF 'veillaw09.GensBases'. -/
def gensBasesUptoCard : Claim7 := { stood := { row := gensBasesUptoRow, standIns := [], harness := (true, "439b99a35e60800ffd1fbba94ecfece794de37d445ac200a68d4dceba02520e9"), looks := false }, kinds := [], alts := [], laidByText := true, laidKinds := [.data], laidTests := true, laidLooks := .later }
def GensBasesUptoCardSaid : Prop := Claim7.holds Tryd.pinned (.plain (OpenSpec.upto gensBasesSpec)) gensBasesUptoCard

/-- THE SECOND FORM's CARD OF 'veillaw07.MsmZips'. -/
def msmZipsUptoCard : Claim7 := { stood := { row := msmZipsUptoRow, standIns := [], harness := (true, "439b99a35e60800ffd1fbba94ecfece794de37d445ac200a68d4dceba02520e9"), looks := false }, kinds := [], alts := [], laidByText := true, laidKinds := [.data], laidTests := true, laidLooks := .later }
def MsmZipsUptoCardSaid : Prop := Claim7.holds Tryd.pinned (.plain (OpenSpec.upto msmZipsSpec)) msmZipsUptoCard

/-- THE SECOND FORM's CARD OF 'veillaw07.MsmLines'. -/
def msmLinesUptoCard : Claim7 := { stood := { row := msmLinesUptoRow, standIns := [], harness := (true, "439b99a35e60800ffd1fbba94ecfece794de37d445ac200a68d4dceba02520e9"), looks := false }, kinds := [], alts := [], laidByText := true, laidKinds := [.data, .data, .data, .data, .wider, .data], laidTests := true, laidLooks := .later }
def MsmLinesUptoCardSaid : Prop := Claim7.holds Tryd.pinned (.plain (OpenSpec.upto msmLinesSpec)) msmLinesUptoCard

/-- THE SECOND FORM's CARD OF 'veillaw09.GensLines'. -/
def gensLinesUptoCard : Claim7 := { stood := { row := gensLinesUptoRow, standIns := [], harness := (true, "439b99a35e60800ffd1fbba94ecfece794de37d445ac200a68d4dceba02520e9"), looks := false }, kinds := [], alts := [], laidByText := true, laidKinds := [.data, .data, .data, .data, .data], laidTests := true, laidLooks := .later }
def GensLinesUptoCardSaid : Prop := Claim7.holds Tryd.pinned (.plain (OpenSpec.upto gensLinesSpec)) gensLinesUptoCard
end Rows
end Go.Proofs.YtoakfcihcmmihaaDoor
