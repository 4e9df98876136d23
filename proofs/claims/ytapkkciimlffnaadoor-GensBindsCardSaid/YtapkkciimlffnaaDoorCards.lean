/-
  DERIVED. GIVEN WITH THE SEED: THE CARDS: each row of YtapkkciimlffnaaDoorRows.lean that lists a variable, with what it lists TIED to the program's text (the seventh form; the later family's looks); each row that meets fmt, with fmt's text TOLD by the authors' own Lean function (tested against real Go, not proved from fmt's source: count such statements apart). THE CARD IS WHAT COUNTS. Prove the row's statement (the work); the ties are given (YtapkkciimlffnaaDoorTie.lean); close each card by the builder's one call (the guide's Derived/Test/ToyasCard.lean, 'card_holds'). Laid BY PROGRAM, IN A SANDBOX (cutbox-door.mjs). By AI agents, Wed Nov 11 2026. No macro, syntax, notation, axiom, sorry.
-/
import Derived.Test.YtapkkciimlffnaaDoorRows
import GoSem.ClaimSeven
namespace Go.Proofs.YtapkkciimlffnaaDoor
namespace Rows

/-- THE TIED CARD OF 'veillaw06.AlgebraBoth'. -/
def algebraBothCard : Claim7 := { stood := { row := algebraBothRow, standIns := [], harness := (true, "66f906c431944638220cd0bf5cc0182cbd961401620c29e9ae8795fd4eef65b7"), looks := true }, kinds := [], alts := [], goes := true, laidByText := true, laidKinds := [.data], laidTests := true, laidLooks := .later }
def AlgebraBothCardSaid : Prop := Claim7.holds Tryd.pinned (.plain (OpenSpec.ofChange algebraBothSpec)) algebraBothCard

/-- THE TIED CARD OF 'veillaw09.GensBinds'. -/
def gensBindsCard : Claim7 := { stood := { row := gensBindsRow, standIns := [], harness := (true, "66f906c431944638220cd0bf5cc0182cbd961401620c29e9ae8795fd4eef65b7"), looks := true }, kinds := [], alts := [], goes := true, laidByText := true, laidKinds := [.data], laidTests := true, laidLooks := .later }
def GensBindsCardSaid : Prop := Claim7.holds Tryd.pinned (.plain (OpenSpec.ofChange gensBindsSpec)) gensBindsCard

/-- THE SECOND FORM's CARD OF 'veillaw06.AlgebraBoth'. -/
def algebraBothUptoCard : Claim7 := { stood := { row := algebraBothUptoRow, standIns := [], harness := (true, "66f906c431944638220cd0bf5cc0182cbd961401620c29e9ae8795fd4eef65b7"), looks := true }, kinds := [], alts := [], goes := true, laidByText := true, laidKinds := [.data], laidTests := true, laidLooks := .later }
def AlgebraBothUptoCardSaid : Prop := Claim7.holds Tryd.pinned (.plain (OpenSpec.upto algebraBothSpec)) algebraBothUptoCard

/-- THE SECOND FORM's CARD OF 'veillaw09.GensBinds'. -/
def gensBindsUptoCard : Claim7 := { stood := { row := gensBindsUptoRow, standIns := [], harness := (true, "66f906c431944638220cd0bf5cc0182cbd961401620c29e9ae8795fd4eef65b7"), looks := true }, kinds := [], alts := [], goes := true, laidByText := true, laidKinds := [.data], laidTests := true, laidLooks := .later }
def GensBindsUptoCardSaid : Prop := Claim7.holds Tryd.pinned (.plain (OpenSpec.upto gensBindsSpec)) gensBindsUptoCard
end Rows
end Go.Proofs.YtapkkciimlffnaaDoor
