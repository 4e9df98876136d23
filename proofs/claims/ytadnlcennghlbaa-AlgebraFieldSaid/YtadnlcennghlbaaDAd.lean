/-
  Product, Mix and the law's own lists over Pair.
-/
import Derived.Test.YtadnlcennghlbaaDAc
namespace Go.Vc
open Go Go.Proofs Go.RowKit
/-! ### Product -/
theorem prow_set {A : Type} (R : Rg A) (c d : List A) (i j n : Nat) (o : Nat → A) : (tabN (R.prow c d i j o) n).set (i + j) (R.add (R.prow c d i j o (i + j)) (R.mul (c.getD i R.zero) (d.getD j R.zero))) = tabN (R.prow c d i (j + 1) o) n := by
  rw [tabN_set]
  rfl
theorem own_off0 {w : World} {base size n : Nat} {e : TypeId} {v : Value} {xs : List Value} (h : w.ownsRow base e size v n xs) {b : Nat} (hb : w.heap.size ≤ b) : ∀ g, v.ownBlock = some g → g ∉ [b] := fun g hg hm => by
  have := (h.lt g hg).2
  simp at hm; omega
/-! ### Mix -/
