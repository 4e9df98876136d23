/-
  What the algebra rows of this seat share: no listed variable; lists of whole numbers that come in; the frame.
-/
import Derived.Test.YtadnlcennghlbaaDAg
import Derived.Test.YtadnlcennghlbaaVcRow
import Derived.Test.YtadnlcennghlbaaRows
import Derived.ShutString
import Derived.ChangeOld
import Derived.WalkKit
import Derived.Deep.DeepHandedRow
namespace Go.Proofs.Ytadnlcennghlbaa
open Go.ChangeShapes Go.WideShapes Go.ChangeAt Go.WideMaps Go.WideElems Go.RowKit Go.Vc
theorem own : ownKnob Try.prog.godebug = none := by kernel_rfl
theorem laidOut : laidOutB Try.prog = true := by kernel_rfl
def laidT : List (String × DataW Unit) := []
/-- The program's own heap meets the condition. -/
theorem door_met (os : Os) (args : Array Value) : laidMet Try.prog laidT ((World.doorLaid Try.prog 400 os).forCall (fun _ _ => 0) ⟨#[], args, []⟩).memory := laidMet_of_run' 8 (by kernel_rfl) (by kernel_rfl)
theorem of_laid {W : World} (_ : laidMetH Try.prog laidT W) : GA W := trivial
section
variable {H : Type} {enc : TypeId × Value → H} {W : World} {base : Nat} {spare : Nat → Bool} {held : Bool} {r : Reach} {b0 : Nat} {v : Value} {d : DataW H} {p : List MemPlace}
theorem elem_I {fuel : Nat} {cs : List Value} {x : DataW H × List MemPlace} (h : DataW.trod enc Try.prog W base spare held fuel 3 cs = some x) : ∃ a, cs = encI a ∧ True := by
  obtain ⟨k, e1, _⟩ := DataW.trod_int Try.underlying3 h
  exact ⟨k, e1, trivial⟩
theorem cells_I : Try.prog.cellsOf 3 = 1 := by kernel_rfl
theorem cells_slice {e : TypeId} {t : TypeId} (ht : Try.prog.underlying t = some (.slice e)) (hv : Value.okWide Try.prog W r b0 t v) : v.cells.toList = [v] ∧ ∀ a l c, v = .slice (some a) l c → a.spot = none := by
  have hc : Cell.okWide Try.prog W r b0 t v := by
    unfold Value.okWide at hv
    rw [ht] at hv
    exact hv
  refine ⟨?_, spot_of hc ht⟩
  unfold Cell.okWide at hc
  rw [ht] at hc
  unfold Cell.ok at hc
  rw [ht] at hc
  cases v <;> first | rfl | exact hc.elim
theorem in_ILv (hv : Value.okWide Try.prog W r b0 22 v) (h : DataW.Trod enc Try.prog W base spare held 22 v d p) : ∃ l : List Int, cLI.rd W v l ∧ l.length ≤ lenD d := by
  obtain ⟨e, hs⟩ := cells_slice Try.underlying22 hv
  obtain ⟨fuel, h⟩ := h
  rw [e] at h
  obtain ⟨v', l, ev, hl, hlen⟩ := trod_Ls (encA := encI) (ok := fun _ => True) Try.underlying22 cells_I encI_len (fun _ _ _ h => elem_I h) (fun a l c e => hs a l c (by simpa using e)) h
  obtain rfl : v = v' := by simpa using ev
  exact ⟨l, hl, Nat.le_of_eq hlen.symm⟩
end
end Go.Proofs.Ytadnlcennghlbaa
