/-
  Lists over the scalars: num, nums.
-/
import Derived.Test.YtapkkciimlffnaaGreatDoorDFr7
namespace Go.Vc
open Go Go.Proofs Go.RowKit

def modL (l : List Nat) : List Nat := l.map (· % lN)
theorem modL_lt (l : List Nat) : ∀ x ∈ modL l, x < lN := fun x hx => by
  obtain ⟨y, _, rfl⟩ := List.mem_map.1 hx; exact Nat.mod_lt _ (by decide)
def cNums : Contract := fnW (Cods.cons cLS Cods.nil) (fun p _ => p.1.length ≤ mx) (fun p w v w' => w'.ownsRow w.heap.size 289 4 v p.1.length ((modL p.1).flatMap encS))
end Go.Vc
