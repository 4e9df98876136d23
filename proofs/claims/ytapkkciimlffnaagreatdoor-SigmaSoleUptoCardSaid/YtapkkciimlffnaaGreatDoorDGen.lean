/-
  Sets of generators over the scalars, and the document's: contracts.
-/
import Derived.Test.YtapkkciimlffnaaGreatDoorDSig2
namespace Go.Vc
open Go Go.Proofs Go.RowKit

theorem tyS : ElTy Tryz.prog 22 25 4 32 (.agg #[U 0, U 0, U 0, U 0]) := ⟨by kernel_rfl, by kernel_rfl⟩
theorem aggL : agg? Tryz.prog 48 = some true := by kernel_rfl
theorem szL : sz Tryz.prog 48 = some 4 := by kernel_rfl
theorem one_encS' (n : Nat) : (encS n).toArray.all (·.oneCell') = true := by simpa using one_encS n
theorem one_encE' (n : Nat) : (encE n).toArray.all (·.oneCell') = true := by simpa using one_encE n
/-- What a list may be long. -/
abbrev mx : Nat := 4194304

def cLines : Contract := fnW (Cods.cons cLS Cods.nil) (fun p _ => p.1.length ≤ mx) (fun p w v w' => w'.ownsRow w.heap.size 48 4 v (p.1.length + 2) ((p.1 ++ [91, 92]).flatMap encS))
theorem ok91 : ∀ x ∈ [91, 92], okS x := fun x hx => by
  simp only [List.mem_cons, List.not_mem_nil, or_false] at hx
  rcases hx with rfl | rfl <;> (unfold okS; decide)
theorem flat_take (l : List Nat) (k : Nat) (h : k < l.length) : (l.take (k + 1)).flatMap encS = (l.take k).flatMap encS ++ encS l[k] := by
  rw [List.take_succ_eq_append_getElem h, List.flatMap_append]; simp
theorem flat_takeE (l : List Nat) (k : Nat) (h : k < l.length) : (l.take (k + 1)).flatMap encE = (l.take k).flatMap encE ++ encE l[k] := by
  rw [List.take_succ_eq_append_getElem h, List.flatMap_append]; simp
def cIts : Contract := fnP (fun n : Nat => [J 2, S n]) (· < W256) (fun n v => v = E (n % lN))
def cCopied : Contract := fnW (Cods.cons cLS Cods.nil) (fun p _ => p.1.length ≤ mx) (fun p w v w' => w'.ownsRow w.heap.size 48 4 v p.1.length (p.1.flatMap encS))
theorem flat_one {α : Type} {enc : α → List Value} (h : ∀ x, (enc x).all (·.oneCell') = true) (l : List α) : ∀ c ∈ l.flatMap enc, c.oneCell' = true := fun c hc => by
  obtain ⟨x, _, hx⟩ := List.mem_flatMap.1 hc
  exact List.all_eq_true.1 (h x) c hx
/-! ### sets with their lists -/
def cSetL : Cod (Nat × Nat × Nat × List Nat × List Nat) := ⟨fun w v p => ∃ g h, v = SetV p.1 p.2.1 p.2.2.1 g h ∧ okS p.1 ∧ okS p.2.1 ∧ okS p.2.2.1 ∧ cLS.rd w g p.2.2.2.1 ∧ cLS.rd w h p.2.2.2.2, fun w v ⟨b, bl, q, G, H⟩ ⟨b', bl', q', G', H'⟩ ⟨g, h, e, o1, o2, o3, hg, hh⟩ ⟨g', h', e', o1', o2', o3', hg', hh'⟩ => by
  have := cSet.inj w v (b, bl, q, g, h) (b', bl', q', g', h') ⟨e, o1, o2, o3, slAt_one hg.1, slAt_one hh.1⟩ ⟨e', o1', o2', o3', slAt_one hg'.1, slAt_one hh'.1⟩
  simp only [Prod.mk.injEq] at this
  obtain ⟨rfl, rfl, rfl, rfl, rfl⟩ := this
  have e1 := cLS.inj _ _ _ _ hg hg'
  have e2 := cLS.inj _ _ _ _ hh hh'
  simp only at e1 e2
  rw [e1, e2]⟩
def cRSetL : Cod (Nat × Nat × Nat × List Nat × List Nat) := ⟨fun w v p => ∃ g h, v = RSetV p.1 p.2.1 (encE p.2.2.1) g h ∧ okS p.1 ∧ okS p.2.1 ∧ okS p.2.2.1 ∧ cLE.rd w g p.2.2.2.1 ∧ cLE.rd w h p.2.2.2.2, fun w v ⟨b, bl, q, G, H⟩ ⟨b', bl', q', G', H'⟩ ⟨g, h, e, o1, o2, o3, hg, hh⟩ ⟨g', h', e', o1', o2', o3', hg', hh'⟩ => by
  have := cRSet.inj w v (b, bl, encE q, g, h) (b', bl', encE q', g', h') ⟨e, o1, o2, rfl, one_encE _, slAt_one hg.1, slAt_one hh.1⟩ ⟨e', o1', o2', rfl, one_encE _, slAt_one hg'.1, slAt_one hh'.1⟩
  simp only [Prod.mk.injEq] at this
  obtain ⟨rfl, rfl, hq, rfl, rfl⟩ := this
  have e0 : q = q' := encE_inj o3 o3' hq
  have e1 := cLE.inj _ _ _ _ hg hg'
  have e2 := cLE.inj _ _ _ _ hh hh'
  simp only at e1 e2
  rw [e0, e1, e2]⟩

def cLine : Contract := fnW (Cods.cons cSetL Cods.nil) (fun p _ => p.1.2.2.2.1.length ≤ mx ∧ p.1.2.2.2.2.length ≤ mx)
  (fun p _ v w' => ∃ g h g' h', v = .tuple #[SetV p.1.1 p.1.2.1 p.1.2.2.1 g' h', g, h] ∧ cLS.rd w' g' p.1.2.2.2.1 ∧ cLS.rd w' h' p.1.2.2.2.2 ∧ cLS.rd w' g (p.1.2.2.2.1 ++ [91, 92]) ∧ cLS.rd w' h (p.1.2.2.2.2 ++ [91, 92]))
theorem ok_marks {l : List Nat} (h : ∀ x ∈ l, okS x) : ∀ x ∈ l ++ [91, 92], okS x := fun x hx => (List.mem_append.1 hx).elim (h x) (ok91 x)
/-- The first ones of a list. -/
theorem sub_first {w : World} {v : Value} {l m : List Nat} (h : SlAt w v (l.length + m.length) ((l ++ m).flatMap encS)) : SlAt w (SubV v 0 l.length 4) l.length (l.flatMap encS) := by
  have := slAt_sub (s := 4) h (Nat.zero_le _) (show l.length ≤ l.length + m.length by omega)
  rw [Nat.sub_zero, Nat.zero_mul, List.drop_zero, List.flatMap_append, take_app (flat_len encS_len l)] at this
  exact this
end Go.Vc
