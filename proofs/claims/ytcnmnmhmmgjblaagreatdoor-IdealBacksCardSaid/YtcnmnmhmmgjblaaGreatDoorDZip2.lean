/-
  Lists with a mark behind them; terms of two lists.
-/
import Derived.Test.YtcnmnmhmmgjblaaGreatDoorDGen
import Derived.Test.YtcnmnmhmmgjblaaGreatDoorDZip
namespace Go.Vc
open Go Go.Proofs Go.RowKit
/-! ### a list with a mark behind it -/
theorem slAt_cap {w : World} {a : Option Addr} {n cap m : Nat} {xs : List Value} (h : SlAt w (.slice a n cap) m xs) : m = n ∧ n ≤ cap := by
  rcases h with ⟨hv, rfl, _⟩ | ⟨b, o, cap', hv, hn, _⟩
  · cases hv; exact ⟨rfl, Nat.le_refl _⟩
  · cases hv; exact ⟨rfl, hn.1⟩
/-- A load of element i. -/
theorem ld_S {X : Ctx} {u : World} {v : Value} {xs : List Value} {l : List Nat} {n i : Nat} {ow : List Nat} {K : Value → Prop} (hP : X.P = Tryz.prog) (hk : Kn X u) (h : SlAt u v n xs) (hx : xs = l.flatMap encS) (hn : l.length = n) (hi : i < l.length) (how : ∀ b, v.ownBlock = some b → b ∉ ow)
    (hK : K (S l[i])) : Ask (rIad X.P 28 v (J i)) fun p => Ask (rLoad X u ow 29 p) K := by
  subst hx
  refine a_iadN hP tyS h (by omega) ?_
  refine a_load_agg (cs := encS l[i]) hk h (by rw [hP]; exact aggS) (by rw [hP]; exact szS) how (by simp [encS]) (flat_at encS_len l i _ (List.getElem?_eq_getElem hi)) ?_
  exact hK
/-! ### terms -/
end Go.Vc
