/-
  Lists over the scalars: num, nums.
-/
import Derived.Test.YtapkkciimlffnaaDoorDFr7
namespace Go.Vc
open Go Go.Proofs Go.RowKit

def modL (l : List Nat) : List Nat := l.map (· % lN)
theorem modL_lt (l : List Nat) : ∀ x ∈ modL l, x < lN := fun x hx => by
  obtain ⟨y, _, rfl⟩ := List.mem_map.1 hx; exact Nat.mod_lt _ (by decide)
end Go.Vc
