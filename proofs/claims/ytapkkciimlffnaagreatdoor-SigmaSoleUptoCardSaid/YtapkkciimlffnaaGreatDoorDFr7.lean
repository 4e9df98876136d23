/-
  Lists over the scalars, both sides: FreeIs, E.Same.
-/
import Derived.Test.YtapkkciimlffnaaGreatDoorDFr6
namespace Go.Vc
open Go Go.Proofs Go.RowKit

theorem list_eq_of {a b : List Nat} (hl : a.length = b.length) (h : ∀ i, i < a.length → a.getD i 0 = b.getD i 0) : a = b :=
  List.ext_getElem hl fun i h1 h2 => by rw [← getD_at h1, ← getD_at h2]; exact h i h1
def cFE : Cods (List Nat × List Nat) := ⟨fun w l p => ∃ x y, l = [.agg #[x], EL y] ∧ cLS.rd w x p.1 ∧ cLS.rd w y p.2, fun w l ⟨a, b⟩ ⟨a', b'⟩ ⟨x, y, e, h, k⟩ ⟨x', y', e', h', k'⟩ => by
  dsimp only at e h k e' h' k'
  rw [e] at e'
  simp only [List.cons.injEq, Value.agg.injEq, and_true] at e'
  have e1 := congrArg Array.toList e'.1
  simp only [List.cons.injEq, and_true] at e1
  subst e1
  obtain rfl := EL_inj e'.2
  rw [cLS.inj _ _ _ _ h h', cLS.inj _ _ _ _ k k']⟩
def cFreeIs : Contract := fnW cFE (fun p _ => p.1.length ≤ mx ∧ p.2.length ≤ mx) (fun p _ v _ => v = .bool (decide (p.1 = p.2)))
def cESameF : Contract := fnW cEl2 (fun p _ => p.1.length ≤ mx ∧ p.2.length ≤ mx) (fun p _ v _ => v = .bool (decide (p.1 = p.2)))
end Go.Vc
