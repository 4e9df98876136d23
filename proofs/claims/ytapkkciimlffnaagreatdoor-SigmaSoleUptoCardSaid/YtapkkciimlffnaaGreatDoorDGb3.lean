/-
  Sums of terms over lists of scalars (msm.Free): CommitVectors.
-/
import Derived.Test.YtapkkciimlffnaaGreatDoorDGb2
namespace Go.Vc
open Go Go.Proofs Go.RowKit

theorem aggFrG : agg? Tryz.prog 32 = some true := by kernel_rfl
theorem szFrG : sz Tryz.prog 32 = some 1 := by kernel_rfl
theorem flat_pushT (ps : List (Nat × Value)) (p : Nat × Value) : ps.flatMap enc5 ++ enc5 p = (ps ++ [p]).flatMap enc5 := by rw [List.flatMap_append]; simp
/-- Place by place. -/
def P2 {α β : Type} (R : α → β → Prop) (l : List α) (m : List β) : Prop := l.length = m.length ∧ ∀ (i : Nat) (p : α) (t : β), l[i]? = some p → m[i]? = some t → R p t
theorem P2.cons {α β : Type} {R : α → β → Prop} {l : List α} {m : List β} {a : α} {b : β} (h : R a b) (k : P2 R l m) : P2 R (a :: l) (b :: m) :=
  ⟨by simp [k.1], fun i p t hp ht => by
    cases i with
    | zero => simp at hp ht; subst hp ht; exact h
    | succ i => exact k.2 i p t (by simpa using hp) (by simpa using ht)⟩
theorem P2.append {α β : Type} {R : α → β → Prop} {l l' : List α} {m m' : List β} (h : P2 R l m) (k : P2 R l' m') : P2 R (l ++ l') (m ++ m') :=
  ⟨by simp [h.1, k.1], fun i p t hp ht => by
    rcases Nat.lt_or_ge i l.length with hi | hi
    · rw [List.getElem?_append_left hi] at hp
      rw [List.getElem?_append_left (by rw [← h.1]; exact hi)] at ht
      exact h.2 i p t hp ht
    · rw [List.getElem?_append_right hi] at hp
      rw [List.getElem?_append_right (by rw [← h.1]; exact hi), ← h.1] at ht
      exact k.2 _ p t hp ht⟩
abbrev RelT (w : World) (p : Nat × Value) (t : Nat × List Nat) : Prop := p.1 = t.1 ∧ okS t.1 ∧ Ls encS okS w p.2 t.2
theorem p2_zip {w : World} {a : List Nat} {vs : List Value} {G : List (List Nat)} (hl : vs.length = G.length) (ha : ∀ x ∈ a, okS x) (h : ∀ (i : Nat) (x : Value) (l : List Nat), vs[i]? = some x → G[i]? = some l → Ls encS okS w x l) : P2 (RelT w) (List.zip a vs) (List.zip a G) :=
  ⟨by simp [hl], fun i p t hp ht => by
    rw [List.getElem?_zip_eq_some] at hp ht
    have e : p.1 = t.1 := Option.some.inj (hp.1.symm.trans ht.1)
    exact ⟨e, ha _ (List.mem_of_getElem? ht.1), h i _ _ hp.2 ht.2⟩⟩
/-- The terms of a commitment of two lists. -/
def cvT (bl : List Nat) (G H : List (List Nat)) (a b : List Nat) (k : Nat) : List (Nat × List Nat) := (k, bl) :: (List.zip a G ++ List.zip b H)
structure CvA where
  bl : List Nat
  G : List (List Nat)
  H : List (List Nat)
  a : List Nat
  b : List Nat
  k : Nat
def cCv : Cods CvA := ⟨fun w l p => ∃ x y z g h xa xb, l = [.agg #[x, y, z, g, h], xa, xb, S p.k] ∧ (x.oneCell' = true ∧ z.oneCell' = true) ∧ cLS.rd w y p.bl ∧ (cLL cLS).rd w g p.G ∧ (cLL cLS).rd w h p.H ∧ cLS.rd w xa p.a ∧ cLS.rd w xb p.b ∧ okS p.k,
  fun w l ⟨bl, G, H, a, b, k⟩ ⟨bl', G', H', a', b', k'⟩ ⟨x, y, z, g, h, xa, xb, e, _, h1, h2, h3, h4, h5, h6⟩ ⟨x', y', z', g', h', xa', xb', e', _, k1, k2, k3, k4, k5, k6⟩ => by
  dsimp only at e h1 h2 h3 h4 h5 h6 e' k1 k2 k3 k4 k5 k6
  rw [e] at e'
  simp only [List.cons.injEq, Value.agg.injEq, and_true] at e'
  obtain ⟨e1, rfl, rfl, e3⟩ := e'
  have e1 := congrArg Array.toList e1
  simp only [List.cons.injEq, and_true] at e1
  obtain ⟨rfl, rfl, rfl, rfl, rfl⟩ := e1
  rw [cLS.inj _ _ _ _ h1 k1, (cLL cLS).inj _ _ _ _ h2 k2, (cLL cLS).inj _ _ _ _ h3 k3, cLS.inj _ _ _ _ h4 k4, cLS.inj _ _ _ _ h5 k5, S_inj h6 k6 e3]⟩
def cCvF : Contract := fnW cCv (fun p _ => 1 + p.G.length + p.H.length < 24 ∧ p.bl.length ≤ mx ∧ (∀ l ∈ p.G, l.length ≤ mx) ∧ (∀ l ∈ p.H, l.length ≤ mx))
  (fun p w v w' => ((p.G.length < p.a.length ∨ p.H.length < p.b.length) → v = .tuple #[.agg #[.slice none 0 0], J 2]) ∧
    (¬ (p.G.length < p.a.length ∨ p.H.length < p.b.length) → ∃ x, v = .tuple #[.agg #[x], J 0] ∧ w'.ownsRow w.heap.size 25 4 x (plainF (cvT p.bl p.G p.H p.a p.b p.k)).length ((plainF (cvT p.bl p.G p.H p.a p.b p.k)).flatMap encS)))
end Go.Vc
