/-
  Lists over the document's scalars: E.Neg, E.Add, E.Double, of the kind Lists.
-/
import Derived.Test.YtapkkciimlffnaaDoorDFr5
namespace Go.Vc
open Go Go.Proofs Go.RowKit

/-! ### Add -/
theorem slAt_stpN {w w' : World} {v : Value} {n : Nat} {xs : List Value} {ex : List Nat} (h : SlAt w v n xs) (s : Stp ex w w') (he : ∀ b ∈ ex, w.heap.size ≤ b) : SlAt w' v n xs := by
  rcases Nat.eq_zero_or_pos xs.length with h0 | h0
  · rw [List.length_eq_zero_iff] at h0
    subst h0
    rcases h with h | ⟨b, o, cap, hv, hn, _⟩
    · exact .inl h
    · exact .inr ⟨b, o, cap, hv, hn, fun i x hx => by simp at hx⟩
  · exact h.stp s (slAt_off h h0 he)
def addR (n : Nat) (a b : List Nat) : List Nat := (List.range n).map fun i => (a.getD i 0 + b.getD i 0) % lN
def addE (a b : List Nat) : List Nat := addR (if a.length < b.length then b.length else a.length) a b
theorem addR_len (n : Nat) (a b : List Nat) : (addR n a b).length = n := by simp [addR]
theorem addR_lt (n : Nat) (a b : List Nat) : ∀ x ∈ addR n a b, x < lN := fun x hx => by
  obtain ⟨i, _, rfl⟩ := List.mem_map.1 hx; exact Nat.mod_lt _ (by decide)
end Go.Vc
