/-
  GensBinds: what commitments over the basis hold, place by place.
-/
import Derived.Test.YtapkkciimlffnaaGreatDoorDGb3
namespace Go.Vc
open Go Go.Proofs Go.RowKit

/-! ### places -/
def sumF (ts : List (Nat × List Nat)) (j : Nat) : Nat := (ts.map fun t => t.1 * t.2.getD j 0).sum
theorem getD_stepF (o : List Nat) (t : Nat × List Nat) (j : Nat) : (stepF o t).getD j 0 = (o.getD j 0 + t.1 * t.2.getD j 0 % lN) % lN := by
  unfold stepF
  rw [getD_trim, getD_addF, getD_trim, getD_map _ (by simp [Fk.op])]
  rfl
theorem plainF_get (j : Nat) (ts : List (Nat × List Nat)) : ∀ o : List Nat, (ts.foldl stepF o).getD j 0 % lN = (o.getD j 0 + sumF ts j) % lN := by
  induction ts with
  | nil => intro o; simp [sumF]
  | cons t r ih =>
    intro o
    rw [List.foldl_cons, ih, getD_stepF, Nat.mod_add_mod]
    have e : sumF (t :: r) j = t.1 * t.2.getD j 0 + sumF r j := by simp [sumF]
    rw [e, Nat.add_right_comm, Nat.add_mod_mod, ← Nat.add_assoc, Nat.add_right_comm]
theorem getD_ltG {l : List Nat} (h : ∀ x ∈ l, x < lN) (j : Nat) : l.getD j 0 < lN := by
  rw [List.getD_eq_getElem?_getD]
  cases hj : l[j]? with
  | none => decide
  | some x => exact h x (List.mem_of_getElem? hj)
theorem plain_get (ts : List (Nat × List Nat)) (j : Nat) : (plainF ts).getD j 0 = sumF ts j % lN := by
  have h := plainF_get j ts []
  have hl := getD_ltG (plainF_lt ts [] (fun _ h => by cases h)) j
  unfold plainF
  rw [Nat.mod_eq_of_lt hl] at h
  rw [h]
  simp
theorem getD_unit (k j : Nat) : (unitL k).getD j 0 = if j = k then 1 else 0 := by
  unfold unitL
  rw [List.getD_eq_getElem?_getD]
  rcases Nat.lt_trichotomy j k with h | h | h
  · rw [List.getElem?_append_left (by simpa using h), List.getElem?_replicate, if_pos h, if_neg (by omega)]; rfl
  · subst h; simp
  · rw [List.getElem?_eq_none (by simp; omega), if_neg (by omega)]; rfl
def unitsL (c n : Nat) : List (List Nat) := (List.range n).map fun i => unitL (c + i)
theorem unitsL_succ (c n : Nat) : unitsL c (n + 1) = unitL c :: unitsL (c + 1) n := by
  unfold unitsL
  rw [List.range_succ_eq_map, List.map_cons, List.map_map, Nat.add_zero]
  congr 1
  refine List.map_congr_left fun i _ => ?_
  show unitL (c + (i + 1)) = unitL (c + 1 + i)
  congr 1; omega
theorem sumF_units (j : Nat) : ∀ (a : List Nat) (c n : Nat), a.length ≤ n → sumF (List.zip a (unitsL c n)) j = if c ≤ j then a.getD (j - c) 0 else 0
  | [], c, n, _ => by simp [sumF]
  | x :: r, c, 0, h => by simp at h
  | x :: r, c, n + 1, h => by
    have ih := sumF_units j r (c + 1) n (by simpa using h)
    rw [unitsL_succ, List.zip_cons_cons]
    have e : sumF ((x, unitL c) :: List.zip r (unitsL (c + 1) n)) j = x * (unitL c).getD j 0 + sumF (List.zip r (unitsL (c + 1) n)) j := by simp [sumF]
    rw [e, ih, getD_unit]
    rcases Nat.lt_trichotomy j c with hj | hj | hj
    · rw [if_neg (by omega), if_neg (by omega), if_neg (by omega), Nat.mul_zero]
    · subst hj; rw [if_pos rfl, if_neg (by omega), if_pos (Nat.le_refl _), Nat.sub_self]; simp
    · rw [if_neg (by omega), if_pos (by omega), if_pos (by omega), show j - c = j - (c + 1) + 1 by omega, List.getD_cons_succ]
      simp
theorem sumF_app (s t : List (Nat × List Nat)) (j : Nat) : sumF (s ++ t) j = sumF s j + sumF t j := by simp [sumF]
theorem sumF_cv (n : Nat) (a b : List Nat) (k j : Nat) (ha : a.length ≤ n) (hb : b.length ≤ n) : sumF (cvT (unitL 1) (unitsL 3 n) (unitsL (3 + n) n) a b k) j = (if j = 1 then k else 0) + (if 3 ≤ j then a.getD (j - 3) 0 else 0) + (if 3 + n ≤ j then b.getD (j - (3 + n)) 0 else 0) := by
  have e : sumF (cvT (unitL 1) (unitsL 3 n) (unitsL (3 + n) n) a b k) j = k * (unitL 1).getD j 0 + sumF (List.zip a (unitsL 3 n) ++ List.zip b (unitsL (3 + n) n)) j := by simp [sumF, cvT]
  rw [e, sumF_app, sumF_units _ _ _ _ ha, sumF_units _ _ _ _ hb, getD_unit, ← Nat.add_assoc]
  congr 2
  split <;> simp
theorem sumF_cm (v f j : Nat) : sumF [(v, unitL 0), (f, unitL 1)] j = (if j = 0 then v else 0) + (if j = 1 then f else 0) := by
  have e : sumF [(v, unitL 0), (f, unitL 1)] j = v * (unitL 0).getD j 0 + f * (unitL 1).getD j 0 := by simp [sumF]
  rw [e, getD_unit, getD_unit]
  congr 1 <;> split <;> simp
/-- Two commitments of a value are the same just if value and blinding are. -/
theorem same_cm (v f w g : Nat) : eqF (plainF [(v, unitL 0), (f, unitL 1)]) (plainF [(w, unitL 0), (g, unitL 1)]) ↔ (v % lN = w % lN ∧ f % lN = g % lN) := by
  unfold eqF
  constructor
  · intro h
    have h0 := h 0
    have h1 := h 1
    rw [plain_get, plain_get, sumF_cm, sumF_cm, Nat.mod_mod, Nat.mod_mod] at h0 h1
    exact ⟨by simpa using h0, by simpa using h1⟩
  · rintro ⟨h0, h1⟩ j
    rw [plain_get, plain_get, sumF_cm, sumF_cm, Nat.mod_mod, Nat.mod_mod]
    match j with
    | 0 => simpa using h0
    | 1 => simpa using h1
    | j + 2 => simp
def cvP (n : Nat) (a b : List Nat) (k : Nat) : List Nat := plainF (cvT (unitL 1) (unitsL 3 n) (unitsL (3 + n) n) a b k)
theorem getD_end {a : List Nat} {n i : Nat} (h : a.length ≤ n) (hi : n ≤ i) : a.getD i 0 = 0 := by rw [List.getD_eq_getElem?_getD, List.getElem?_eq_none (by omega)]; rfl
theorem cvP_1 (n : Nat) (a b : List Nat) (k : Nat) (ha : a.length ≤ n) (hb : b.length ≤ n) : (cvP n a b k).getD 1 0 = k % lN := by
  unfold cvP; rw [plain_get, sumF_cv _ _ _ _ _ ha hb, if_pos rfl, if_neg (by omega), if_neg (by omega)]; rfl
theorem cvP_a (n : Nat) (a b : List Nat) (k i : Nat) (ha : a.length ≤ n) (hb : b.length ≤ n) (hi : i < n) : (cvP n a b k).getD (3 + i) 0 = a.getD i 0 % lN := by
  unfold cvP; rw [plain_get, sumF_cv _ _ _ _ _ ha hb, if_neg (by omega), if_pos (by omega), if_neg (by omega), show 3 + i - 3 = i by omega, Nat.zero_add]; rfl
theorem cvP_b (n : Nat) (a b : List Nat) (k i : Nat) (ha : a.length ≤ n) (hb : b.length ≤ n) (hi : i < n) : (cvP n a b k).getD (3 + n + i) 0 = b.getD i 0 % lN := by
  unfold cvP; rw [plain_get, sumF_cv _ _ _ _ _ ha hb, if_neg (by omega), if_pos (by omega), if_pos (by omega), getD_end ha (by omega), show 3 + n + i - (3 + n) = i by omega, Nat.zero_add]
/-- Two commitments of lists are the same just if blindings and lists are, but for noughts. -/
theorem same_cv (n : Nat) (a b c d : List Nat) (f g : Nat) (ha : a.length ≤ n) (hb : b.length ≤ n) (hc : c.length ≤ n) (hd : d.length ≤ n) :
    eqF (cvP n a b f) (cvP n c d g) ↔ (f % lN = g % lN ∧ ∀ i, i < n → a.getD i 0 % lN = c.getD i 0 % lN ∧ b.getD i 0 % lN = d.getD i 0 % lN) := by
  constructor
  · intro h
    refine ⟨?_, fun i hi => ⟨?_, ?_⟩⟩
    · have := h 1
      rwa [cvP_1 _ _ _ _ ha hb, cvP_1 _ _ _ _ hc hd, Nat.mod_mod, Nat.mod_mod] at this
    · have := h (3 + i)
      rwa [cvP_a _ _ _ _ _ ha hb hi, cvP_a _ _ _ _ _ hc hd hi, Nat.mod_mod, Nat.mod_mod] at this
    · have := h (3 + n + i)
      rwa [cvP_b _ _ _ _ _ ha hb hi, cvP_b _ _ _ _ _ hc hd hi, Nat.mod_mod, Nat.mod_mod] at this
  · rintro ⟨h1, h2⟩ j
    rcases Nat.lt_or_ge j 3 with h | h
    · unfold cvP
      rw [plain_get, plain_get, sumF_cv _ _ _ _ _ ha hb, sumF_cv _ _ _ _ _ hc hd]
      simp only [show ¬ 3 ≤ j by omega, show ¬ 3 + n ≤ j by omega, if_false]
      by_cases e : j = 1
      · simp only [e, if_true, Nat.add_zero, Nat.mod_mod]; exact h1
      · simp only [e, if_false]
    · rcases Nat.lt_or_ge (j - 3) n with h' | h'
      · have := (h2 (j - 3) h').1
        rw [show j = 3 + (j - 3) by omega, cvP_a _ _ _ _ _ ha hb h', cvP_a _ _ _ _ _ hc hd h', Nat.mod_mod, Nat.mod_mod, this]
      · rcases Nat.lt_or_ge (j - (3 + n)) n with h'' | h''
        · have := (h2 (j - (3 + n)) h'').2
          rw [show j = 3 + n + (j - (3 + n)) by omega, cvP_b _ _ _ _ _ ha hb h'', cvP_b _ _ _ _ _ hc hd h'', Nat.mod_mod, Nat.mod_mod, this]
        · unfold cvP
          rw [plain_get, plain_get, sumF_cv _ _ _ _ _ ha hb, sumF_cv _ _ _ _ _ hc hd, getD_end ha h', getD_end hc h', getD_end hb h'', getD_end hd h'']
          simp only [show ¬ j = 1 by omega, if_false]
#print axioms same_cv
end Go.Vc
