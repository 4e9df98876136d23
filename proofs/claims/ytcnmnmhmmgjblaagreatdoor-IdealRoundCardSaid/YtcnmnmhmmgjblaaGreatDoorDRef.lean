/-
  The document's scalars (veilref02): contracts by numbers.
-/
import Derived.Test.YtcnmnmhmmgjblaaGreatDoorVcTac
import Derived.Test.YtcnmnmhmmgjblaaGreatDoorDLeast
namespace Go.Vc
open Go Go.Proofs Go.RowKit
theorem hGT : ∀ w0 w : World, GT w0 → (∀ b, b < w0.heap.size → w.heap[b]? = w0.heap[b]?) → w0.heap.size ≤ w.heap.size → GT w := fun _ _ h h1 h2 => h.stays h1 h2
theorem hMix : Tryz.prog.follows .mixedOrders = true := by kernel_rfl
def T0 : Table := fun _ => {}
theorem keepT0 : AllKeep Tryz.prog GT T0 := AllKeep.none _ _
abbrev enc2 (p : Nat × Nat) : List Value := [S p.1, S p.2]
abbrev dom2 (p : Nat × Nat) : Prop := p.1 < W256 ∧ p.2 < W256
theorem inj2 (a b : Nat × Nat) (ha : dom2 a) (hb : dom2 b) (h : enc2 a = enc2 b) : a = b := by
  simp only [enc2, List.cons.injEq, and_true] at h
  exact Prod.ext (S_inj ha.1 hb.1 h.1) (S_inj ha.2 hb.2 h.2)
/-! ### sixteen bits more -/
theorem lN_lt : lN < W256 := by decide
end Go.Vc
