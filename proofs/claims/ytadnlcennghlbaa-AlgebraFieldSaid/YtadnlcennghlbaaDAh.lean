/-
  Polynomials over the integers modulo 7: division, roots, interpolation.
-/
import Derived.Test.YtadnlcennghlbaaDAb
namespace Go.Vc
open Go Go.RowKit
abbrev K7 : Type := Rm 7
theorem nzd7 : ∀ a b : K7, a * b = 0 → a = 0 ∨ b = 0 := by decide
theorem sub0 {a b : K7} (h : a - b = 0) : a = b := by grind
/-! ### division by x - r -/
/-- Values from above: c has n + 1 coefficients. -/
def hs (c : Nat → K7) (n : Nat) (r : K7) : Nat → K7
  | 0 => 0
  | k + 1 => c (n - k) + hs c n r k * r
def dq (c : Nat → K7) (n : Nat) (r x : K7) : Nat → K7
  | 0 => 0
  | k + 1 => hs c n r k + x * dq c n r x k
theorem hs_div (c : Nat → K7) (n : Nat) (r x : K7) : ∀ k : Nat, hs c n x k = dq c n r x k * (x - r) + hs c n r k
  | 0 => by simp only [hs, dq]; grind
  | k + 1 => by simp only [hs, dq]; rw [hs_div c n r x k]; grind
theorem dq_sum (c : Nat → K7) (n : Nat) (r x : K7) : ∀ k : Nat, dq c n r x k = evR (fun j => hs c n r (k - 1 - j)) k x
  | 0 => rfl
  | k + 1 => by
    rw [dq, dq_sum c n r x k, evR, evR, sumR_head, ← sumR_mulL]
    have e : sumR (fun i => x * (hs c n r (k - 1 - i) * pwR x i)) k = sumR (fun i => hs c n r (k + 1 - 1 - (i + 1)) * pwR x (i + 1)) k := sumR_congr k fun i hi => by
      rw [show k + 1 - 1 - (i + 1) = k - 1 - i by omega, pwR]; grind
    rw [e]
    simp only [pwR, Nat.add_sub_cancel, Nat.sub_zero]
    grind
theorem hs_sum (c : Nat → K7) (n : Nat) (x : K7) : ∀ k : Nat, k ≤ n + 1 → hs c n x k = sumR (fun i => c (n + 1 - k + i) * pwR x i) k
  | 0, _ => rfl
  | k + 1, hk => by
    rw [hs, hs_sum c n x k (by omega), sumR_head]
    have e : sumR (fun i => c (n + 1 - (k + 1) + (i + 1)) * pwR x (i + 1)) k = x * sumR (fun i => c (n + 1 - k + i) * pwR x i) k := by
      rw [← sumR_mulL]
      refine sumR_congr k fun i hi => ?_
      rw [show n + 1 - (k + 1) + (i + 1) = n + 1 - k + i by omega, pwR]; grind
    rw [e, show n + 1 - (k + 1) + 0 = n - k by omega]
    simp only [pwR]
    grind
theorem hs_ev (c : Nat → K7) (n : Nat) (x : K7) : hs c n x (n + 1) = evR c (n + 1) x := by
  rw [hs_sum c n x (n + 1) (Nat.le_refl _), Nat.sub_self]
  exact sumR_congr _ fun i _ => by rw [Nat.zero_add]
/-- The quotient's coefficients: n of them. -/
def qu (c : Nat → K7) (n : Nat) (r : K7) (j : Nat) : K7 := hs c n r (n - j)
theorem qu_ev (c : Nat → K7) (n : Nat) (r x : K7) : evR c (n + 1) x = evR (qu c n r) n x * (x - r) + evR c (n + 1) r := by
  rw [← hs_ev c n x, ← hs_ev c n r, hs_div c n r x, dq_sum, Nat.add_sub_cancel]
  have e : evR (fun j => hs c n r (n - j)) (n + 1) x = evR (qu c n r) n x := by
    rw [evR, sumR, Nat.sub_self, hs]
    have : sumR (fun i => hs c n r (n - i) * pwR x i) n = evR (qu c n r) n x := rfl
    rw [this]; grind
  rw [e]
def Unlike (x : Nat → K7) (n : Nat) : Prop := ∀ i j, i < n → j < n → i ≠ j → x i ≠ x j
/-- A polynomial of n coefficients with n roots vanishes. -/
theorem zero_poly : ∀ (n : Nat) (c x : Nat → K7), Unlike x n → (∀ i, i < n → evR c n (x i) = 0) → ∀ k, k < n → c k = 0
  | 0, _, _, _, _ => fun k hk => by omega
  | n + 1, c, x, hu, h => fun k hk => by
    have hr : evR c (n + 1) (x n) = 0 := h n (by omega)
    have hd : ∀ i, i < n → evR (qu c n (x n)) n (x i) = 0 := fun i hi => by
      have h1 := qu_ev c n (x n) (x i)
      rw [h i (by omega), hr] at h1
      rcases nzd7 (evR (qu c n (x n)) n (x i)) (x i - x n) (by grind) with h2 | h2
      · exact h2
      · exact absurd (sub0 h2) (hu i n (by omega) (by omega) (by omega))
    have hq := zero_poly n (qu c n (x n)) x (fun i j hi hj => hu i j (by omega) (by omega)) hd
    have hz : ∀ k, k ≤ n → hs c n (x n) k = 0 := fun k hk => by
      rcases Nat.eq_zero_or_pos k with h0 | h0
      · rw [h0]; rfl
      · have := hq (n - k) (by omega)
        rw [qu, show n - (n - k) = k by omega] at this
        exact this
    have hz1 : hs c n (x n) (n + 1) = 0 := by rw [hs_ev]; exact hr
    have hk1 : hs c n (x n) (n - k + 1) = 0 := by
      rcases Nat.eq_zero_or_pos k with h0 | h0
      · rw [h0, Nat.sub_zero]; exact hz1
      · exact hz (n - k + 1) (by omega)
    rw [hs, hz (n - k) (by omega), show n - (n - k) = k by omega] at hk1
    grind
/-- Two polynomials of n coefficients with the same values at n places are the same. -/
theorem same_poly {n : Nat} {c d x : Nat → K7} (hu : Unlike x n) (h : ∀ i, i < n → evR c n (x i) = evR d n (x i)) : ∀ k, k < n → c k = d k := fun k hk => by
  have hs : ∀ y, evR (fun i => c i - d i) n y = evR c n y - evR d n y := fun y => by
    have h1 : evR c n y = sumR (fun i => (c i - d i) * pwR y i + d i * pwR y i) n := sumR_congr n fun i _ => by grind
    rw [h1, sumR_add]
    show sumR (fun i => (c i - d i) * pwR y i) n = sumR (fun i => (c i - d i) * pwR y i) n + sumR (fun i => d i * pwR y i) n - sumR (fun i => d i * pwR y i) n
    grind
  exact sub0 (zero_poly n (fun i => c i - d i) x hu (fun i hi => by rw [hs, h i hi]; grind) k hk)
/-! ### the program's lists -/
/-- The list divided by X - x. -/
def wo (c : List Int) (x : Int) : Nat → Int
  | 0 => 0
  | k + 1 => sR.add (c.getD (c.length - 1 - k) 0) (sR.mul (wo c x k) x)
def without (c : List Int) (x : Int) : List Int := tabN (fun i => wo c x (c.length - 1 - i)) (c.length - 1)
def cf (l : List Int) (i : Nat) : K7 := fs7 (l.getD i 0)
theorem wo_hs (c : List Int) (x : Int) : ∀ k, fs7 (wo c x k) = hs (cf c) (c.length - 1) (fs7 x) k
  | 0 => rI_zero
  | k + 1 => by rw [wo, homS.add, homS.mul, wo_hs c x k, hs]; rfl
theorem without_len (c : List Int) (x : Int) : (without c x).length = c.length - 1 := tabN_len _ _
theorem cf_tab (f : Nat → Int) {n i : Nat} (h : i < n) : cf (tabN f n) i = fs7 (f i) := by rw [cf, tabN_get _ _ h]
theorem without_cf (c : List Int) (x : Int) {i : Nat} (h : i < c.length - 1) : cf (without c x) i = qu (cf c) (c.length - 1) (fs7 x) i := by
  rw [without, cf_tab _ h, wo_hs, qu]
theorem eval7 (c : List Int) (x : Int) : fs7 (sR.eval c x) = evR (cf c) c.length (fs7 x) := sR.eval_hom homS c x
/-! ### the product of all X - x i -/
def allA (xs : List Int) : Nat → List Int
  | 0 => [1]
  | i + 1 => sR.product (allA xs i) [sR.sub 0 (xs.getD i 0), 1]
theorem prod_len {c d : List Int} (hc : 0 < c.length) (hd : 0 < d.length) : (sR.product c d).length = c.length + d.length - 1 := by
  rw [Rg.product, if_neg (by omega), tabN_len]
theorem all_len (xs : List Int) : ∀ i, (allA xs i).length = i + 1
  | 0 => rfl
  | i + 1 => by rw [allA, prod_len (by rw [all_len xs i]; omega) (by simp), all_len xs i]; simp
theorem prod_two (c : List Int) (a b : Int) : ∀ (i k : Nat), fs7 (sR.prod c [a, b] i k) = (if k < i then cf c k * fs7 a else 0) + (if 1 ≤ k ∧ k ≤ i then cf c (k - 1) * fs7 b else 0)
  | 0, k => by
    rw [if_neg (by omega), if_neg (by omega)]
    show fs7 0 = _
    rw [show fs7 0 = 0 from rI_zero]; grind
  | i + 1, k => by
    have e : sR.prod c [a, b] (i + 1) k = if k = i + 1 then sR.add (if i + 1 = i then sR.add (sR.prod c [a, b] i (i)) (sR.mul (c.getD i 0) a) else sR.prod c [a, b] i (i + 1)) (sR.mul (c.getD i 0) b) else (if k = i then sR.add (sR.prod c [a, b] i (i)) (sR.mul (c.getD i 0) a) else sR.prod c [a, b] i k) := rfl
    rw [e]
    by_cases h1 : k = i + 1
    · subst h1
      rw [if_pos rfl, if_neg (show ¬ i + 1 = i by omega), homS.add, homS.mul, prod_two c a b i (i + 1), if_neg (show ¬ i + 1 < i by omega), if_neg (show ¬ (1 ≤ i + 1 ∧ i + 1 ≤ i) by omega), if_neg (show ¬ i + 1 < i + 1 by omega), if_pos (show 1 ≤ i + 1 ∧ i + 1 ≤ i + 1 by omega), Nat.add_sub_cancel]
      show 0 + 0 + cf c i * fs7 b = _
      grind
    · rw [if_neg h1]
      by_cases h2 : k = i
      · subst h2
        rw [if_pos rfl, homS.add, homS.mul, prod_two c a b k k, if_neg (show ¬ k < k by omega), if_pos (show k < k + 1 by omega)]
        by_cases h3 : 1 ≤ k
        · rw [if_pos (show 1 ≤ k ∧ k ≤ k by omega), if_pos (show 1 ≤ k ∧ k ≤ k + 1 by omega)]
          show 0 + cf c (k - 1) * fs7 b + cf c k * fs7 a = _
          grind
        · rw [if_neg (show ¬ (1 ≤ k ∧ k ≤ k) by omega), if_neg (show ¬ (1 ≤ k ∧ k ≤ k + 1) by omega)]
          show 0 + 0 + cf c k * fs7 a = _
          grind
      · rw [if_neg h2, prod_two c a b i k]
        by_cases h3 : k < i
        · rw [if_pos h3, if_pos (show k < i + 1 by omega)]
          by_cases h4 : 1 ≤ k
          · rw [if_pos (show 1 ≤ k ∧ k ≤ i by omega), if_pos (show 1 ≤ k ∧ k ≤ i + 1 by omega)]
          · rw [if_neg (show ¬ (1 ≤ k ∧ k ≤ i) by omega), if_neg (show ¬ (1 ≤ k ∧ k ≤ i + 1) by omega)]
        · rw [if_neg h3, if_neg (show ¬ k < i + 1 by omega), if_neg (show ¬ (1 ≤ k ∧ k ≤ i) by omega), if_neg (show ¬ (1 ≤ k ∧ k ≤ i + 1) by omega)]
theorem all_top (xs : List Int) : ∀ i, cf (allA xs i) i = 1
  | 0 => rI_one
  | i + 1 => by
    have hl := all_len xs i
    have e : cf (allA xs (i + 1)) (i + 1) = fs7 (sR.prod (allA xs i) [sR.sub 0 (xs.getD i 0), 1] (i + 1) (i + 1)) := by
      rw [allA, Rg.product, if_neg (by rw [hl]; simp), cf_tab _ (by rw [hl]; simp), hl]
    rw [e, prod_two, if_neg (by omega), if_pos (by omega), Nat.add_sub_cancel, all_top xs i, show fs7 1 = 1 from rI_one]
    grind
theorem all_ev (xs : List Int) (y : Int) : ∀ i, evR (cf (allA xs (i + 1))) (i + 2) (fs7 y) = evR (cf (allA xs i)) (i + 1) (fs7 y) * (fs7 y - cf xs i) := fun i => by
  have h1 := sR.product_hom homS (allA xs i) [sR.sub 0 (xs.getD i 0), 1] y
  rw [eval7, eval7, eval7] at h1
  have hl : (sR.product (allA xs i) [sR.sub 0 (xs.getD i 0), 1]).length = i + 2 := by
    have := all_len xs (i + 1)
    rwa [allA] at this
  rw [hl, all_len] at h1
  rw [allA, h1]
  have e2 : evR (cf [sR.sub 0 (xs.getD i 0), 1]) 2 (fs7 y) = fs7 y - cf xs i := by
    have h0 : cf [sR.sub 0 (xs.getD i 0), 1] 0 = fs7 0 - cf xs i := homS.sub _ _
    have h2 : cf [sR.sub 0 (xs.getD i 0), 1] 1 = 1 := rI_one
    simp only [evR, sumR, pwR]
    rw [h0, h2, show fs7 0 = 0 from rI_zero]
    grind
  have e3 : ([sR.sub 0 (xs.getD i 0), 1] : List Int).length = 2 := rfl
  rw [e3, e2]
theorem all_root (xs : List Int) {j : Nat} : ∀ i, j < i → evR (cf (allA xs i)) (i + 1) (cf xs j) = 0
  | 0, h => by omega
  | i + 1, h => by
    have h1 := all_ev xs (xs.getD j 0) i
    have h1 : evR (cf (allA xs (i + 1))) (i + 1 + 1) (cf xs j) = evR (cf (allA xs i)) (i + 1) (cf xs j) * (cf xs j - cf xs i) := h1
    rw [h1]
    by_cases e : j = i
    · subst e; grind
    · rw [all_root xs i (by omega)]; grind
/-! ### inverses of all -/
def isz (a : Int) : Bool := decide (a % 7 = 0)
theorem isz_iff {a : Int} : isz a = true ↔ fs7 a = 0 := by
  rw [isz, decide_eq_true_eq, ← rI_zero, fs7, rI_eq]; simp
def pre (xs : List Int) : Nat → Int
  | 0 => 1
  | i + 1 => if isz (xs.getD i 0) then pre xs i else sR.mul (pre xs i) (xs.getD i 0)
def lf (xs : List Int) (n : Nat) : Nat → Int
  | 0 => sInv (pre xs n)
  | k + 1 => if isz (xs.getD (n - 1 - k) 0) then lf xs n k else sR.mul (lf xs n k) (xs.getD (n - 1 - k) 0)
def inv1 (xs : List Int) (n : Nat) (i : Nat) : Int := if isz (xs.getD i 0) then 0 else sR.mul (pre xs i) (lf xs n (n - 1 - i))
def invAll (xs : List Int) : List Int := tabN (inv1 xs xs.length) xs.length
theorem pre_nz (xs : List Int) : ∀ i, fs7 (pre xs i) ≠ 0
  | 0 => by rw [pre, show fs7 1 = 1 from rI_one]; decide
  | i + 1 => by
    rw [pre]
    split
    · exact pre_nz xs i
    · rename_i h
      rw [homS.mul]
      intro h0
      rcases nzd7 _ _ h0 with h1 | h1
      · exact pre_nz xs i h1
      · exact h (isz_iff.2 h1)
theorem lf_pre (xs : List Int) (n : Nat) : ∀ k, k ≤ n → fs7 (lf xs n k) * fs7 (pre xs (n - k)) = 1
  | 0, _ => by
    rw [lf, Nat.sub_zero]
    refine sInv_mul fun h => pre_nz xs n ?_
    rw [← rI_zero, fs7, rI_eq]; simpa using h
  | k + 1, hk => by
    have ih := lf_pre xs n k (by omega)
    obtain ⟨i, hi⟩ : ∃ i, n - k = i + 1 := ⟨n - k - 1, by omega⟩
    have e1 : n - 1 - k = i := by omega
    have e2 : n - (k + 1) = i := by omega
    rw [hi, pre] at ih
    rw [lf, e1, e2]
    by_cases h : isz (xs.getD i 0) = true
    · rw [if_pos h] at ih ⊢; exact ih
    · rw [if_neg h] at ih ⊢
      rw [homS.mul] at ih ⊢
      grind
theorem inv1_mul (xs : List Int) {n i : Nat} (hi : i < n) (h : cf xs i ≠ 0) : fs7 (inv1 xs n i) * cf xs i = 1 := by
  have hz : ¬ isz (xs.getD i 0) = true := fun h' => h (isz_iff.1 h')
  have h1 := lf_pre xs n (n - 1 - i) (by omega)
  rw [show n - (n - 1 - i) = i + 1 by omega, pre, if_neg hz, homS.mul] at h1
  rw [inv1, if_neg hz, homS.mul]
  show _ * fs7 (xs.getD i 0) = 1
  grind
/-! ### interpolation -/
def restA (xs : List Int) (i : Nat) : List Int := without (allA xs xs.length) (xs.getD i 0)
def atA (xs : List Int) : List Int := tabN (fun i => sR.eval (restA xs i) (xs.getD i 0)) xs.length
def fA (xs ys : List Int) (i : Nat) : Int := sR.mul (ys.getD i 0) ((invAll (atA xs)).getD i 0)
def accA (xs ys : List Int) : Nat → Nat → Int
  | 0, _ => 0
  | i + 1, k => sR.add (accA xs ys i k) (sR.mul (fA xs ys i) ((restA xs i).getD k 0))
def interpA (xs ys : List Int) : List Int := tabN (accA xs ys xs.length) xs.length
theorem rest_len (xs : List Int) (i : Nat) : (restA xs i).length = xs.length := by rw [restA, without_len, all_len]; rfl
section
variable (xs : List Int)
theorem rest_ev (i : Nat) (hi : i < xs.length) (y : Int) : evR (cf (allA xs xs.length)) (xs.length + 1) (fs7 y) = evR (cf (restA xs i)) xs.length (fs7 y) * (fs7 y - cf xs i) := by
  have h1 := qu_ev (cf (allA xs xs.length)) xs.length (cf xs i) (fs7 y)
  rw [all_root xs xs.length hi] at h1
  have e : evR (cf (restA xs i)) xs.length (fs7 y) = evR (qu (cf (allA xs xs.length)) xs.length (cf xs i)) xs.length (fs7 y) := sumR_congr _ fun k hk => by
    have h2 := without_cf (allA xs xs.length) (xs.getD i 0) (i := k) (by rw [all_len]; exact hk)
    rw [all_len, Nat.add_sub_cancel] at h2
    rw [show cf (restA xs i) k = _ from h2]
    rfl
  rw [e, h1]; grind
theorem acc_ev (ys : List Int) (y : K7) : ∀ i, evR (fun k => fs7 (accA xs ys i k)) xs.length y = sumR (fun i => fs7 (fA xs ys i) * evR (cf (restA xs i)) xs.length y) i
  | 0 => sumR_zero _ fun k _ => by
    show fs7 0 * _ = 0
    rw [show fs7 0 = 0 from rI_zero]; grind
  | i + 1 => by
    rw [sumR, ← acc_ev ys y i]
    have e : evR (fun k => fs7 (accA xs ys (i + 1) k)) xs.length y = sumR (fun k => fs7 (accA xs ys i k) * pwR y k + fs7 (fA xs ys i) * (cf (restA xs i) k * pwR y k)) xs.length := sumR_congr _ fun k _ => by
      show fs7 (accA xs ys (i + 1) k) * pwR y k = _
      rw [accA, homS.add, homS.mul]
      show (_ + _ * cf (restA xs i) k) * _ = _
      grind
    rw [e, sumR_add, sumR_mulL]
    rfl
variable (hu : Unlike (cf xs) xs.length)
include hu
theorem rest_off {i j : Nat} (hi : i < xs.length) (hj : j < xs.length) (hij : i ≠ j) : evR (cf (restA xs i)) xs.length (cf xs j) = 0 := by
  have h1 := rest_ev xs i hi (xs.getD j 0)
  have h1 : evR (cf (allA xs xs.length)) (xs.length + 1) (cf xs j) = evR (cf (restA xs i)) xs.length (cf xs j) * (cf xs j - cf xs i) := h1
  rw [all_root xs xs.length hj] at h1
  rcases nzd7 _ _ h1.symm with h2 | h2
  · exact h2
  · exact absurd (sub0 h2) (hu j i hj hi fun h => hij h.symm)
theorem rest_at {i : Nat} (hi : i < xs.length) : evR (cf (restA xs i)) xs.length (cf xs i) ≠ 0 := fun h0 => by
  have hz := zero_poly xs.length (cf (restA xs i)) (cf xs) hu fun j hj => by
    by_cases e : i = j
    · subst e; exact h0
    · exact rest_off xs hu hi hj e
  have h1 := hz (xs.length - 1) (by omega)
  have h2 := without_cf (allA xs xs.length) (xs.getD i 0) (i := xs.length - 1) (by rw [all_len]; omega)
  rw [all_len, Nat.add_sub_cancel] at h2
  rw [show cf (restA xs i) (xs.length - 1) = _ from h2, qu, show xs.length - (xs.length - 1) = 1 by omega, hs, hs, Nat.sub_zero, all_top] at h1
  have : (1 : K7) = 0 := by grind
  exact absurd this (by decide)
/-- What Interpolate answers has the values. -/
theorem interp_ev (ys : List Int) {j : Nat} (hj : j < xs.length) : evR (cf (interpA xs ys)) xs.length (cf xs j) = cf ys j := by
  have e : evR (cf (interpA xs ys)) xs.length (cf xs j) = evR (fun k => fs7 (accA xs ys xs.length k)) xs.length (cf xs j) := sumR_congr _ fun k hk => by
    rw [interpA, cf_tab _ hk]
  rw [e, acc_ev xs]
  have hat : ∀ i, i < xs.length → cf (atA xs) i = evR (cf (restA xs i)) xs.length (cf xs i) := fun i hi => by
    rw [atA, cf_tab _ hi, eval7, rest_len]; rfl
  have hl : (atA xs).length = xs.length := tabN_len _ _
  have hf : fs7 (fA xs ys j) * evR (cf (restA xs j)) xs.length (cf xs j) = cf ys j := by
    have h1 : fs7 ((invAll (atA xs)).getD j 0) * cf (atA xs) j = 1 := by
      rw [invAll, tabN_get _ _ (by rw [hl]; exact hj)]
      exact inv1_mul _ (by rw [hl]; exact hj) (by rw [hat j hj]; exact rest_at xs hu hj)
    rw [fA, homS.mul, ← hat j hj]
    show cf ys j * _ * _ = _
    grind
  have h2 := sumR_one (f := fun i => fs7 (fA xs ys i) * evR (cf (restA xs i)) xs.length (cf xs j)) (g := fun _ => (0 : K7)) (k := j) (d := cf ys j) xs.length hj (fun i hi hij => by
    rw [rest_off xs hu hi hj hij]; grind) (by rw [hf]; grind)
  rw [h2, sumR_zero _ fun _ _ => rfl]
  grind
end
end Go.Vc
