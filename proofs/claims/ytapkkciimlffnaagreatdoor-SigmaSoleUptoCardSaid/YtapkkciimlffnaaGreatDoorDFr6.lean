/-
  Lists over the document's scalars: E.Neg, E.Add, E.Double, of the kind Lists.
-/
import Derived.Test.YtapkkciimlffnaaGreatDoorDFr5
namespace Go.Vc
open Go Go.Proofs Go.RowKit

def cRNegF : Contract := fnW cEl (fun a _ => a.length ≤ mx) (fun a w v w' => Tre w.heap.size w' v (mulL (subL 0 1) a))
/-! ### Add -/
theorem slAt_stpN {w w' : World} {v : Value} {n : Nat} {xs : List Value} {ex : List Nat} (h : SlAt w v n xs) (s : Stp ex w w') (he : ∀ b ∈ ex, w.heap.size ≤ b) : SlAt w' v n xs := by
  rcases Nat.eq_zero_or_pos xs.length with h0 | h0
  · rw [List.length_eq_zero_iff] at h0
    subst h0
    rcases h with h | ⟨b, o, cap, hv, hn, _⟩
    · exact .inl h
    · exact .inr ⟨b, o, cap, hv, hn, fun i x hx => by simp at hx⟩
  · exact h.stp s (slAt_off h h0 he)
def addR (n : Nat) (a b : List Nat) : List Nat := (List.range n).map fun i => (a.getD i 0 + b.getD i 0) % lN
def addE (a b : List Nat) : List Nat := addR (if a.length < b.length then b.length else a.length) a b
theorem addR_len (n : Nat) (a b : List Nat) : (addR n a b).length = n := by simp [addR]
theorem addR_lt (n : Nat) (a b : List Nat) : ∀ x ∈ addR n a b, x < lN := fun x hx => by
  obtain ⟨i, _, rfl⟩ := List.mem_map.1 hx; exact Nat.mod_lt _ (by decide)
def cRAddF : Contract := fnW cEl2 (fun p _ => (p.1.length ≤ mx ∧ p.2.length ≤ mx) ∧ (∀ x ∈ p.1, x < lN) ∧ ∀ x ∈ p.2, x < lN) (fun p w v w' => Tre w.heap.size w' v (addE p.1 p.2))
def cRDblF : Contract := fnW cEl (fun a _ => a.length ≤ mx ∧ ∀ x ∈ a, x < lN) (fun a w v w' => Tre w.heap.size w' v (addE a a))
end Go.Vc
