/-
  The document's way back (veilref16.Back), over the scalars.
-/
import Derived.Test.YtcnmnmhmmgjblaaGreatDoorDIh
namespace Go.Vc
open Go Go.Proofs Go.RowKit
theorem tpL_zero (l r : Value) (L R : List F) : Value.agg #[U 0, U 0, U 0, U 0, U 0, U 0, U 0, U 0, U 0, U 0, U 0, U 0, U 0, U 0, U 0, U 0, l, r] = .agg (tpL (0, 0, 0, 0, L, R) l r).toArray := by kernel_rfl
namespace Bk
end Bk
/-- A tape whose lists are the call's own. -/
def TpOwn (lo : Nat) (w : World) (u : Value) (t : TpF) : Prop := ∃ l r, u = .agg (tpL t l r).toArray ∧ LsF w l t.2.2.2.2.1 ∧ LsF w r t.2.2.2.2.2 ∧ ∀ x ∈ [l, r], ∀ g, x.ownBlock = some g → lo ≤ g ∧ g < w.heap.size
theorem TpOwn.none {lo : Nat} {w : World} {l r : Value} (hl : l = .slice none 0 0) (hr : r = .slice none 0 0) : ∀ x ∈ [l, r], ∀ g, x.ownBlock = some g → lo ≤ g ∧ g < w.heap.size := fun x hx g hg => by
  subst hl hr
  simp only [List.mem_cons, List.not_mem_nil, or_false, or_self] at hx
  subst hx
  cases hg
theorem TpOwn.two {lo : Nat} {w : World} {l r : Value} (hl : ∀ g, l.ownBlock = some g → lo ≤ g ∧ g < w.heap.size) (hr : ∀ g, r.ownBlock = some g → lo ≤ g ∧ g < w.heap.size) : ∀ x ∈ [l, r], ∀ g, x.ownBlock = some g → lo ≤ g ∧ g < w.heap.size := fun x hx g hg => by
  simp only [List.mem_cons, List.not_mem_nil, or_false] at hx
  rcases hx with rfl | rfl
  · exact hl g hg
  · exact hr g hg
theorem fits0 {b c : Int} {g h s r : Nat} {l : List (Nat × Nat)} (e : fitsE b c g h s r l = 0) : ∃ m n : Nat, b = m ∧ c = n ∧ (0 < m ∧ m ≤ 64) ∧ (0 < n ∧ n ≤ 16) ∧ m * n ≤ g ∧ m * n ≤ h ∧ l.length = n ∧ s = m * n ∧ r = m * n ∧ badV b l = false := by
  unfold fitsE at e
  split at e
  · cases e
  rename_i h1
  split at e
  · cases e
  rename_i h2
  split at e
  · cases e
  rename_i h3
  obtain ⟨m, n, rfl, rfl, hm0, hm1, hn0, hn1⟩ := okPar_spec (by simpa using h1)
  have hN : m * n ≤ 1024 := Nat.le_trans (Nat.mul_le_mul hm1 hn1) (by decide)
  have hs : sizeI (m : Int) (n : Int) = ((m * n : Nat) : Int) := sizeI_nat (by omega)
  simp only [Bool.or_eq_true, not_or, Bool.not_eq_true, Bool.not_eq_false', enB, Bool.and_eq_true, decide_eq_true_eq, bne_eq_false_iff_eq, hs] at h2
  obtain ⟨⟨⟨⟨a1, a2⟩, a3⟩, a4⟩, a5⟩ := h2
  exact ⟨m, n, rfl, rfl, ⟨hm0, hm1⟩, ⟨hn0, hn1⟩, by omega, by omega, by omega, by omega, by omega, by simpa using h3⟩
theorem tp_fold (a r t1 t2 : F) (L R : List F) (x y : Value) : Value.agg #[U (lb a.val 0), U (lb a.val 1), U (lb a.val 2), U (lb a.val 3), U (lb r.val 0), U (lb r.val 1), U (lb r.val 2), U (lb r.val 3), U (lb t1.val 0), U (lb t1.val 1), U (lb t1.val 2), U (lb t1.val 3), U (lb t2.val 0), U (lb t2.val 1), U (lb t2.val 2), U (lb t2.val 3), x, y] = .agg (tpL (a, r, t1, t2, L, R) x y).toArray := rfl
section
variable {X : Ctx} {K : Value → Prop}
end
end Go.Vc
