/-
  Rings of residues: whole numbers modulo m, values of polynomials, products, inner products.
-/
import Derived.Test.YtadnlcennghlbaaVcEasy
namespace Go.Vc
open Go Go.RowKit
/-! ### whole numbers modulo m -/
section
variable {m : Nat} [NeZero m]
theorem mposI : (0 : Int) < (m : Int) := by have := Nat.pos_of_neZero m; omega
def rI (m : Nat) [NeZero m] (a : Int) : _root_.Fin m := ⟨(a % (m : Int)).toNat, by
  have h0 : (0 : Int) < (m : Int) := mposI
  have h1 := Int.emod_nonneg a (show (m : Int) ≠ 0 by omega)
  have h2 := Int.emod_lt_of_pos a h0
  omega⟩
theorem rI_val (a : Int) : (((rI m a).val : Nat) : Int) = a % (m : Int) := Int.toNat_of_nonneg (Int.emod_nonneg a (by have := @mposI m _; omega))
theorem rI_ext {x : _root_.Fin m} {a : Int} (h : ((x.val : Nat) : Int) = a % (m : Int)) : x = rI m a := by
  apply _root_.Fin.ext
  have := rI_val (m := m) a
  omega
theorem rI_eq {a b : Int} : rI m a = rI m b ↔ a % (m : Int) = b % (m : Int) := by
  constructor
  · intro h
    rw [← rI_val, ← rI_val, h]
  · intro h
    exact rI_ext (by rw [rI_val, h])
theorem rI_add (a b : Int) : rI m (a + b) = rI m a + rI m b := by
  symm
  apply rI_ext
  rw [_root_.Fin.val_add, Int.natCast_emod, Int.natCast_add, rI_val, rI_val, ← Int.add_emod]
theorem rI_mul (a b : Int) : rI m (a * b) = rI m a * rI m b := by
  symm
  apply rI_ext
  rw [_root_.Fin.val_mul, Int.natCast_emod, Int.natCast_mul, rI_val, rI_val, ← Int.mul_emod]
theorem rI_zero : rI m 0 = 0 := by
  symm
  apply rI_ext
  simp
theorem rI_one : rI m 1 = 1 := by
  symm
  apply rI_ext
  show (((1 % m : Nat)) : Int) = _
  rw [Int.natCast_emod]; rfl
theorem rI_sub (a b : Int) : rI m (a - b) = rI m a - rI m b := by
  have h := rI_add (m := m) (a - b) b
  rw [Int.sub_add_cancel] at h
  rw [h]
  grind
theorem rI_emod (a : Int) : rI m (a % (m : Int)) = rI m a := by
  rw [rI_eq, Int.emod_emod]
end
/-! ### sums, powers, values -/
section
variable {m : Nat} [NeZero m]
abbrev Rm (m : Nat) : Type := _root_.Fin m
def sumR (f : Nat → Rm m) : Nat → Rm m
  | 0 => 0
  | n + 1 => sumR f n + f n
def pwR (x : Rm m) : Nat → Rm m
  | 0 => 1
  | n + 1 => pwR x n * x
def evR (c : Nat → Rm m) (n : Nat) (x : Rm m) : Rm m := sumR (fun i => c i * pwR x i) n
theorem sumR_congr {f g : Nat → Rm m} : ∀ n : Nat, (∀ i, i < n → f i = g i) → sumR f n = sumR g n
  | 0, _ => rfl
  | n + 1, h => by rw [sumR, sumR, sumR_congr n fun i hi => h i (by omega), h n (by omega)]
theorem sumR_add (f g : Nat → Rm m) : ∀ n : Nat, sumR (fun i => f i + g i) n = sumR f n + sumR g n
  | 0 => by simp only [sumR]; grind
  | n + 1 => by simp only [sumR, sumR_add f g n]; grind
theorem sumR_mulL (a : Rm m) (f : Nat → Rm m) : ∀ n : Nat, sumR (fun i => a * f i) n = a * sumR f n
  | 0 => by simp only [sumR]; grind
  | n + 1 => by simp only [sumR, sumR_mulL a f n]; grind
theorem sumR_zero {f : Nat → Rm m} : ∀ n : Nat, (∀ i, i < n → f i = 0) → sumR f n = 0
  | 0, _ => rfl
  | n + 1, h => by rw [sumR, sumR_zero n fun i hi => h i (by omega), h n (by omega)]; grind
theorem sumR_head (f : Nat → Rm m) : ∀ n : Nat, sumR f (n + 1) = f 0 + sumR (fun i => f (i + 1)) n
  | 0 => by simp only [sumR]; grind
  | n + 1 => by rw [sumR, sumR_head f n]; simp only [sumR]; grind
/-- A sum of which one term turns. -/
theorem sumR_one {f g : Nat → Rm m} {k : Nat} {d : Rm m} : ∀ n : Nat, k < n → (∀ i, i < n → i ≠ k → f i = g i) → f k = g k + d → sumR f n = sumR g n + d
  | 0, h, _, _ => by omega
  | n + 1, h, h1, h2 => by
    by_cases e : k = n
    · subst e
      rw [sumR, sumR, h2, sumR_congr k fun i hi => h1 i (by omega) (by omega)]; grind
    · rw [sumR, sumR, sumR_one n (by omega) (fun i hi => h1 i (by omega)) h2, h1 n (by omega) (fun h => e h.symm)]; grind
theorem pwR_add (x : Rm m) (i : Nat) : ∀ j : Nat, pwR x (i + j) = pwR x i * pwR x j
  | 0 => by simp only [pwR, Nat.add_zero]; grind
  | j + 1 => by rw [← Nat.add_assoc, pwR, pwR, pwR_add x i j]; grind
end
/-! ### lists by places -/
def tabN {α : Type} (f : Nat → α) (n : Nat) : List α := (List.range n).map f
section
variable {α β : Type}
theorem tabN_len (f : Nat → α) (n : Nat) : (tabN f n).length = n := by simp [tabN]
theorem tabN_succ (f : Nat → α) (n : Nat) : tabN f (n + 1) = tabN f n ++ [f n] := by simp [tabN, List.range_succ]
theorem tabN_at (f : Nat → α) {n i : Nat} (h : i < n) : (tabN f n)[i]? = some (f i) := by simp [tabN, List.getElem?_range h]
theorem tabN_get (f : Nat → α) {n i : Nat} (d : α) (h : i < n) : (tabN f n).getD i d = f i := by
  rw [List.getD_eq_getElem?_getD, tabN_at f h]; rfl
theorem tabN_congr {f g : Nat → α} {n : Nat} (h : ∀ i, i < n → f i = g i) : tabN f n = tabN g n := by
  unfold tabN
  exact List.map_congr_left fun i hi => h i (List.mem_range.1 hi)
theorem tabN_set (f : Nat → α) (i n : Nat) (x : α) : (tabN f n).set i x = tabN (fun j => if j = i then x else f j) n := by
  apply List.ext_getElem
  · simp [tabN]
  · intro j h1 h2
    rw [List.getElem_set]
    simp only [tabN, List.getElem_map, List.getElem_range]
    by_cases e : i = j
    · rw [if_pos e, if_pos e.symm]
    · rw [if_neg e, if_neg fun h => e h.symm]
theorem tabN_rep (a : α) (n : Nat) : List.replicate n a = tabN (fun _ => a) n := by
  apply List.ext_getElem
  · simp [tabN]
  · intro j h1 h2
    simp [tabN]
theorem getD_lt {l : List α} {i : Nat} (d : α) (h : i < l.length) : l.getD i d = l[i] := by
  rw [List.getD_eq_getElem?_getD, List.getElem?_eq_getElem h]; rfl
end
/-! ### operations that stand for those of a ring -/
/-- A type with operations. -/
structure Rg (A : Type) where
  add : A → A → A
  sub : A → A → A
  mul : A → A → A
  one : A
  zero : A
/-- What its elements stand for. -/
structure Rg.Hom {A : Type} (R : Rg A) {m : Nat} [NeZero m] (φ : A → Rm m) : Prop where
  add : ∀ a b, φ (R.add a b) = φ a + φ b
  sub : ∀ a b, φ (R.sub a b) = φ a - φ b
  mul : ∀ a b, φ (R.mul a b) = φ a * φ b
  one : φ R.one = 1
  zero : φ R.zero = 0
namespace Rg
variable {A : Type} (R : Rg A)
/-- The list at i from the end on, as Eval goes: values of the last k coefficients. -/
def ev (c : List A) (x : A) : Nat → A
  | 0 => R.zero
  | k + 1 => R.add (R.mul (ev c x k) x) (c.getD (c.length - 1 - k) R.zero)
def eval (c : List A) (x : A) : A := R.ev c x c.length
/-- Row i of a product, j of its terms. -/
def prow (c d : List A) (i : Nat) : Nat → (Nat → A) → Nat → A
  | 0, o => o
  | j + 1, o => fun k => if k = i + j then R.add (prow c d i j o (i + j)) (R.mul (c.getD i R.zero) (d.getD j R.zero)) else prow c d i j o k
def prod (c d : List A) : Nat → Nat → A
  | 0 => fun _ => R.zero
  | i + 1 => R.prow c d i d.length (prod c d i)
def product (c d : List A) : List A := if c.length = 0 ∨ d.length = 0 then [] else tabN (R.prod c d c.length) (c.length + d.length - 1)
section hom
variable {m : Nat} [NeZero m] {φ : A → Rm m} (h : R.Hom φ)
include h
theorem ev_hom (c : List A) (x : A) : ∀ k : Nat, k ≤ c.length → φ (R.ev c x k) = sumR (fun i => φ (c.getD (c.length - k + i) R.zero) * pwR (φ x) i) k
  | 0, _ => h.zero
  | k + 1, hk => by
    rw [ev, h.add, h.mul, ev_hom c x k (by omega), sumR_head]
    have e0 : c.length - (k + 1) + 0 = c.length - 1 - k := by omega
    rw [e0]
    have e : sumR (fun i => φ (c.getD (c.length - (k + 1) + (i + 1)) R.zero) * pwR (φ x) (i + 1)) k = φ x * sumR (fun i => φ (c.getD (c.length - k + i) R.zero) * pwR (φ x) i) k := by
      rw [← sumR_mulL]
      refine sumR_congr k fun i hi => ?_
      rw [show c.length - (k + 1) + (i + 1) = c.length - k + i by omega, pwR]
      grind
    rw [e]
    simp only [pwR]
    grind
theorem eval_hom (c : List A) (x : A) : φ (R.eval c x) = evR (fun i => φ (c.getD i R.zero)) c.length (φ x) := by
  rw [eval, R.ev_hom h c x _ (Nat.le_refl _), Nat.sub_self]
  exact sumR_congr _ fun i _ => by rw [Nat.zero_add]
theorem prow_hom (c d : List A) (i n : Nat) (x : Rm m) (o : Nat → A) : ∀ j : Nat, i + j ≤ n → evR (fun k => φ (R.prow c d i j o k)) n x = evR (fun k => φ (o k)) n x + φ (c.getD i R.zero) * pwR x i * sumR (fun j => φ (d.getD j R.zero) * pwR x j) j
  | 0, _ => by simp only [prow, sumR]; grind
  | j + 1, hj => by
    have ih := prow_hom c d i n x o j (by omega)
    have e : evR (fun k => φ (R.prow c d i (j + 1) o k)) n x = evR (fun k => φ (R.prow c d i j o k)) n x + φ (c.getD i R.zero) * φ (d.getD j R.zero) * pwR x (i + j) := by
      refine sumR_one (k := i + j) n (by omega) (fun k _ hk => ?_) ?_
      · simp only [prow, if_neg hk]
      · simp only [prow, if_pos, h.add, h.mul]; grind
    rw [e, ih, pwR_add]
    simp only [sumR]
    grind
theorem prod_hom (c d : List A) (x : Rm m) (hd : 0 < d.length) : ∀ i : Nat, i ≤ c.length → evR (fun k => φ (R.prod c d i k)) (c.length + d.length - 1) x = evR (fun i => φ (c.getD i R.zero)) i x * evR (fun i => φ (d.getD i R.zero)) d.length x
  | 0, _ => by
    rw [evR, sumR_zero _ fun k _ => by simp only [prod, h.zero]; grind]
    simp only [evR, sumR]; grind
  | i + 1, hi => by
    rw [prod, R.prow_hom h c d i _ x _ _ (by omega), prod_hom c d x hd i (by omega)]
    simp only [evR, sumR]
    grind
/-- The value of a product is the product of the values. -/
theorem product_hom (c d : List A) (x : A) : φ (R.eval (R.product c d) x) = φ (R.eval c x) * φ (R.eval d x) := by
  rw [R.eval_hom h, R.eval_hom h c, R.eval_hom h d]
  unfold product
  split
  · rename_i h0
    have : evR (fun i => φ (c.getD i R.zero)) c.length (φ x) * evR (fun i => φ (d.getD i R.zero)) d.length (φ x) = 0 := by
      rcases h0 with h0 | h0
      · rw [h0]; simp only [evR, sumR]; grind
      · rw [h0]; simp only [evR, sumR]; grind
    rw [this]; rfl
  · rename_i h0
    rw [tabN_len, ← R.prod_hom h c d (φ x) (by omega) c.length (Nat.le_refl _)]
    exact sumR_congr _ fun i hi => by dsimp only; rw [tabN_get _ _ hi]
end hom
end Rg
end Go.Vc
