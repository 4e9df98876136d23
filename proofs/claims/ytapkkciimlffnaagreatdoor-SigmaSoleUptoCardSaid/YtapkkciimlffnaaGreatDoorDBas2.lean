/-
  The sets in which there is no relation: the set, on both sides.
-/
import Derived.Test.YtapkkciimlffnaaGreatDoorDBas
namespace Go.Vc
open Go Go.Proofs Go.RowKit

/-- Lists of different types lie apart. -/
theorem own_apart {w : World} {b1 b2 s1 s2 n1 n2 : Nat} {e1 e2 : TypeId} {v1 v2 : Value} {xs ys : List Value} (h1 : w.ownsRow b1 e1 s1 v1 n1 xs) (h2 : w.ownsRow b2 e2 s2 v2 n2 ys) (hne : (e1 == e2) = false) : ∀ b, v1.ownBlock = some b → b ∉ v2.ownBlock.toList := fun b hb hm => by
  rcases h1.2 with ⟨rfl, _⟩ | ⟨g, cap, cur, rfl, _, hg, _⟩
  · cases hb
  · rcases h2.2 with ⟨rfl, _⟩ | ⟨g', cap', cur', rfl, _, hg', _⟩
    · simp [Value.ownBlock] at hm
    · cases hb
      simp only [Value.ownBlock, Option.toList_some, List.mem_singleton] at hm
      subst hm
      rw [hg] at hg'
      simp only [Option.some.injEq, Obj.cells.injEq] at hg'
      rw [hg'.2.1] at hne
      simp at hne
/-- A unit list of the call's own, off the blocks b. -/
def Uw (e lo : Nat) (w : World) (v : Value) (k : Nat) : Prop := w.ownsRow lo e 4 v (k + 1) ((unitL k).flatMap encS)
def Un (e lo : Nat) (w : World) (b : List Nat) (v : Value) (k : Nat) : Prop := Uw e lo w v k ∧ ∀ g, v.ownBlock = some g → g ∉ b
theorem Un.stp {e lo : Nat} {u w : World} {b : List Nat} {k : Nat} {v : Value} {ex : List Nat} (h : Un e lo u b v k) (hs : Stp ex u w) (hb : ∀ g, v.ownBlock = some g → g ∈ ex → g ∈ b) : Un e lo w b v k :=
  ⟨own_stp h.1 hs fun g hg hm => h.2 g hg (hb g hg hm), h.2⟩
theorem Un.stp0 {e lo : Nat} {u w : World} {b : List Nat} {k : Nat} {v : Value} (h : Un e lo u b v k) (hs : Stp [] u w) : Un e lo w b v k := h.stp hs fun _ _ h => by cases h
/-- Lists of them. -/
def Uns (e lo : Nat) (w : World) (b : List Nat) (vs : List Value) (f : Nat → Nat) : Prop := ∀ (i : Nat) (v : Value), vs[i]? = some v → Un e lo w b v (f i)
theorem Uns.stp {e lo : Nat} {u w : World} {b : List Nat} {vs : List Value} {f : Nat → Nat} {ex : List Nat} (h : Uns e lo u b vs f) (hs : Stp ex u w) (hb : ∀ v ∈ vs, ∀ g, v.ownBlock = some g → g ∈ ex → g ∈ b) : Uns e lo w b vs f := fun i v hv => (h i v hv).stp hs (hb v (List.mem_of_getElem? hv))
theorem Uns.stp0 {e lo : Nat} {u w : World} {b : List Nat} {vs : List Value} {f : Nat → Nat} (h : Uns e lo u b vs f) (hs : Stp [] u w) : Uns e lo w b vs f := h.stp hs fun _ _ _ _ h => by cases h
theorem Uns.push {e lo : Nat} {w : World} {b : List Nat} {vs : List Value} {f : Nat → Nat} (h : Uns e lo w b vs f) {v : Value} (hv : Un e lo w b v (f vs.length)) : Uns e lo w b (vs ++ [v]) f := fun i x hx => by
  rcases Nat.lt_or_ge i vs.length with hi | hi
  · rw [List.getElem?_append_left hi] at hx; exact h i x hx
  · rw [List.getElem?_append_right hi] at hx
    have : i - vs.length = 0 := by have := (List.getElem?_eq_some_iff.1 hx).1; simp at this; omega
    rw [this] at hx
    simp at hx; subst hx
    have : i = vs.length := by omega
    rw [this]; exact hv
theorem Uns.apart {e e2 lo : Nat} {w : World} {b : List Nat} {vs : List Value} {f : Nat → Nat} (h : Uns e lo w b vs f) {base size n : Nat} {x : Value} {xs : List Value} (hx : w.ownsRow base e2 size x n xs) (hne : (e == e2) = false) : ∀ v ∈ vs, ∀ g, v.ownBlock = some g → g ∈ x.ownBlock.toList → g ∈ b := fun v hv g hg hm => by
  obtain ⟨i, hi⟩ := List.getElem?_of_mem hv
  exact absurd hm (own_apart (h i v hi).1 hx hne g hg)

/-- The set's lists, as they are read. -/
def FSet (e lo : Nat) (w : World) (n : Nat) (x y z g h : Value) (vs us : List Value) : Prop := Uw e lo w x 0 ∧ Uw e lo w y 1 ∧ Uw e lo w z 2 ∧ vs.length = n ∧ us.length = n ∧ (∀ (i : Nat) (v : Value), vs[i]? = some v → Uw e lo w v (3 + i)) ∧ (∀ (i : Nat) (v : Value), us[i]? = some v → Uw e lo w v (3 + n + i)) ∧
  (∀ q, g.ownBlock = some q → lo ≤ q) ∧ (∀ q, h.ownBlock = some q → lo ≤ q)
theorem Uw.stp {e lo : Nat} {u w : World} {v : Value} {k : Nat} {ex : List Nat} (h : Uw e lo u v k) (hs : Stp ex u w) (he : ∀ b ∈ ex, b < lo) : Uw e lo w v k := own_stp h hs (off_own h he)
theorem FSet.stp {e lo : Nat} {u w : World} {n : Nat} {x y z g h : Value} {vs us : List Value} {ex : List Nat} (k : FSet e lo u n x y z g h vs us) (hs : Stp ex u w) (he : ∀ b ∈ ex, b < lo) : FSet e lo w n x y z g h vs us :=
  ⟨k.1.stp hs he, k.2.1.stp hs he, k.2.2.1.stp hs he, k.2.2.2.1, k.2.2.2.2.1, fun i v hv => (k.2.2.2.2.2.1 i v hv).stp hs he, fun i v hv => (k.2.2.2.2.2.2.1 i v hv).stp hs he, k.2.2.2.2.2.2.2⟩
theorem Uw.rd {e lo : Nat} {w : World} {v : Value} {k : Nat} (h : Uw e lo w v k) : cLS.rd w v (unitL k) := ⟨by rw [unit_len]; exact own_slAt h, unit_ok k⟩
end Go.Vc
