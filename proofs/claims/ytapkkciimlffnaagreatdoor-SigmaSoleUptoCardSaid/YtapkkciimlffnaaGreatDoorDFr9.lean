/-
  Lists over the scalars: Decode; the laws.
-/
import Derived.Test.YtapkkciimlffnaaGreatDoorDFr8
namespace Go.Vc
open Go Go.Proofs Go.RowKit

/-! ### lists up to noughts at their end -/
theorem trim_zero (l : List Nat) : trim (l ++ [0]) = trim l := by simp [trim]
theorem trim_ne (l : List Nat) {a : Nat} (h : a ≠ 0) : trim (l ++ [a]) = l ++ [a] := by simp [trim, h]
theorem rev_ind {p : List Nat → Prop} (h0 : p []) (h1 : ∀ l a, p l → p (l ++ [a])) (l : List Nat) : p l := by
  rw [← List.reverse_reverse l]
  induction l.reverse with
  | nil => exact h0
  | cons a r ih => rw [List.reverse_cons]; exact h1 _ _ ih
theorem getD_app (l : List Nat) (a i : Nat) : (l ++ [a]).getD i 0 = if i < l.length then l.getD i 0 else if i = l.length then a else 0 := by
  simp only [List.getD_eq_getElem?_getD]
  split
  · rename_i h; rw [List.getElem?_append_left h]
  · rename_i h
    split
    · rename_i h'; subst h'; simp
    · rw [List.getElem?_eq_none (by simp; omega)]; rfl
theorem getD_trim (l : List Nat) (i : Nat) : (trim l).getD i 0 = l.getD i 0 := by
  refine rev_ind (p := fun l => (trim l).getD i 0 = l.getD i 0) rfl (fun l a ih => ?_) l
  by_cases h : a = 0
  · subst h
    rw [trim_zero, ih, getD_app]
    split
    · rfl
    · rw [getD_none (by omega)]; split <;> rfl
  · rw [trim_ne l h]
theorem trim_top (l : List Nat) : trim l = [] ∨ (trim l).getD ((trim l).length - 1) 0 ≠ 0 := by
  refine rev_ind (p := fun l => trim l = [] ∨ (trim l).getD ((trim l).length - 1) 0 ≠ 0) (.inl rfl) (fun l a ih => ?_) l
  by_cases h : a = 0
  · subst h
    rw [trim_zero]; exact ih
  · right
    rw [trim_ne l h, getD_app]
    simp [h]
theorem trim_len_le {a b : List Nat} (h : ∀ i, a.getD i 0 = b.getD i 0) : (trim a).length ≤ (trim b).length := by
  rcases trim_top a with h0 | h0
  · rw [h0]; exact Nat.zero_le _
  · rcases Nat.lt_or_ge (trim b).length (trim a).length with hlt | hge
    · exfalso
      refine h0 ?_
      rw [getD_trim, h, ← getD_trim, getD_none (by omega)]
    · exact hge
theorem trim_eq {a b : List Nat} (h : ∀ i, a.getD i 0 = b.getD i 0) : trim a = trim b :=
  list_eq_of (Nat.le_antisymm (trim_len_le h) (trim_len_le fun i => (h i).symm)) fun i _ => by rw [getD_trim, getD_trim]; exact h i
theorem trim_eq_iff {a b : List Nat} : trim a = trim b ↔ ∀ i, a.getD i 0 = b.getD i 0 := ⟨fun h i => by rw [← getD_trim a, h, getD_trim], trim_eq⟩

theorem getD_map {f : Nat → Nat} (l : List Nat) (h0 : f 0 = 0) (i : Nat) : (l.map f).getD i 0 = f (l.getD i 0) := by
  rcases Nat.lt_or_ge i l.length with h | h
  · rw [getD_at (by simpa using h), getD_at h, List.getElem_map]
  · rw [getD_none (by simpa using h), getD_none h, h0]
theorem getD_ofL (l : List Nat) (i : Nat) : (trim (modL l)).getD i 0 = l.getD i 0 % lN := by rw [getD_trim, modL, getD_map _ (by decide)]
theorem getD_addL (a b : List Nat) (h : b.length ≤ a.length) (i : Nat) : (addL a b).getD i 0 = (a.getD i 0 + b.getD i 0) % lN := by
  rcases Nat.lt_or_ge i a.length with hi | hi
  · exact addL_get a b i hi
  · rw [getD_none (by rw [addL_len]; exact hi), getD_none hi, getD_none (Nat.le_trans h hi)]
    decide
theorem getD_addF (a b : List Nat) (i : Nat) : (addF a b).getD i 0 = (a.getD i 0 + b.getD i 0) % lN := by
  unfold addF
  split
  · rw [getD_addL _ _ (by omega), Nat.add_comm]
  · exact getD_addL _ _ (by omega) i
theorem getD_addE (a b : List Nat) (i : Nat) : (addE a b).getD i 0 = (a.getD i 0 + b.getD i 0) % lN := by
  unfold addE
  generalize hn : (if a.length < b.length then b.length else a.length) = n
  have hab : a.length ≤ n ∧ b.length ≤ n := by subst hn; split <;> omega
  rcases Nat.lt_or_ge i n with hi | hi
  · rw [getD_at (by rw [addR_len]; exact hi)]; simp [addR]
  · rw [getD_none (by rw [addR_len]; exact hi), getD_none (by omega), getD_none (by omega)]
    decide
theorem mod_mod_add (a b : Nat) : (a % lN + b % lN) % lN = (a + b) % lN := (Nat.add_mod a b lN).symm
theorem law_add (a b : List Nat) : trim (addF a b) = trim (addE (trim (modL a)) (trim (modL b))) := trim_eq fun i => by
  rw [getD_addF, getD_addE, getD_ofL, getD_ofL, mod_mod_add]
theorem law_dbl (a : List Nat) : trim (a.map Fk.dbl.op) = trim (addE (trim (modL a)) (trim (modL a))) := trim_eq fun i => by
  rw [getD_map _ (by decide), getD_addE, getD_ofL, mod_mod_add]; rfl
theorem law_times (a : List Nat) (k : Nat) : trim (a.map (Fk.mul k).op) = trim (mulL (k % lN) (trim (modL a))) := trim_eq fun i => by
  rw [getD_map _ (by simp [Fk.op]), mulL, getD_map _ (by simp), getD_ofL, ← Nat.mul_mod, Nat.mul_comm]; rfl
theorem neg_modL {L m : Nat} (hm : 0 < m) (hl : m < L) : m * (L - 1) % L = L - m := by
  have e : m * (L - 1) = (L - m) + L * (m - 1) := by
    have h1 := Nat.mul_sub_one m L
    have h2 := Nat.mul_sub_one L m
    have h3 := Nat.mul_comm m L
    have h4 : L * 1 ≤ L * m := Nat.mul_le_mul_left L hm
    have h5 : m * 1 ≤ m * L := Nat.mul_le_mul_left m (by omega)
    omega
  rw [e, Nat.add_mul_mod_self_left, Nat.mod_eq_of_lt (by omega)]
theorem neg_mul (m : Nat) (h : m < lN) : subL 0 m = m * subL 0 1 % lN := by
  rcases Nat.eq_zero_or_pos m with rfl | hm
  · rw [Nat.zero_mul]; decide
  · rw [show subL 0 1 = lN - 1 by decide, neg_modL hm h]
    unfold subL
    rw [if_pos hm]
    omega
theorem law_neg (a : List Nat) : trim (a.map Fk.neg.op) = trim (mulL (subL 0 1) (trim (modL a))) := trim_eq fun i => by
  rw [getD_map _ (by decide), mulL, getD_map _ (by simp), getD_ofL]
  exact neg_mul _ (Nat.mod_lt _ (by decide))
theorem law_same (a b : List Nat) : trim (modL a) = trim (modL b) ↔ eqF a b := by
  rw [trim_eq_iff]
  unfold eqF modL
  exact forall_congr' fun i => by rw [getD_map _ (by decide), getD_map _ (by decide)]

/-! ### Decode -/
def cFDe : Cods Unit := ⟨fun _ l _ => ∃ x cs, l = [.agg #[x], .agg (List.toArray cs)] ∧ x.oneCell' = true ∧ cs.length = 32 ∧ cs.all (·.oneCell') = true, fun _ _ _ _ _ _ => rfl⟩
def cFDec : Contract := fnW cFDe (fun _ _ => True) (fun _ _ v _ => v = .tuple #[.agg #[.slice none 0 0], J 50])
#print axioms law_neg
end Go.Vc
