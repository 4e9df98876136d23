/-
  The scalars as a field: residues, powers, inverses.
-/
import Derived.Test.YtcnmnmhmmgjblaaGreatDoorDNt
import Derived.Test.YtcnmnmhmmgjblaaGreatDoorDRm
namespace Go.Vc
open Go Go.Proofs Go.RowKit
theorem lN_pos : 0 < lN := by decide
instance : NeZero lN := ⟨by decide⟩
abbrev F := _root_.Fin lN
def rF (n : Nat) : F := ⟨n % lN, Nat.mod_lt _ lN_pos⟩
theorem rF_val (e : F) : rF e.val = e := _root_.Fin.ext (Nat.mod_eq_of_lt e.isLt)
theorem val_rF (n : Nat) : (rF n).val = n % lN := rfl
theorem rF_mod (n : Nat) : rF (n % lN) = rF n := _root_.Fin.ext (Nat.mod_mod _ _)
theorem rF_add (a b : Nat) : rF (a + b) = rF a + rF b := _root_.Fin.ext (by rw [_root_.Fin.val_add, val_rF, val_rF, val_rF, Nat.mod_add_mod, Nat.add_mod_mod])
theorem rF_mul (a b : Nat) : rF (a * b) = rF a * rF b := _root_.Fin.ext (by rw [_root_.Fin.val_mul, val_rF, val_rF, val_rF, ← Nat.mul_mod])
theorem rF_zero : rF 0 = 0 := rfl
theorem rF_one : rF 1 = 1 := rfl
theorem rF_eq {a b : Nat} : rF a = rF b ↔ a % lN = b % lN := ⟨fun h => congrArg _root_.Fin.val h, fun h => _root_.Fin.ext h⟩
theorem rF_eq0 {a : Nat} : rF a = 0 ↔ a % lN = 0 := ⟨fun h => congrArg _root_.Fin.val h, fun h => _root_.Fin.ext h⟩
theorem val_lt (e : F) : e.val < W256 := Nat.lt_trans e.isLt lN_lt
theorem val_of_lt {a : Nat} (h : a < lN) : (rF a).val = a := Nat.mod_eq_of_lt h
theorem rF_subL {a b : Nat} (hb : b < lN) : rF (subL a b) = rF a - rF b := by
  have e : rF (subL a b) + rF b = rF a := by
    rw [← rF_add]
    unfold subL
    split
    · rw [show a + lN - b + b = a + lN by omega, rF_eq, Nat.add_mod_right]
    · rw [show a - b + b = a by omega]
  rw [← e]; grind
theorem val_subL {a b : F} : subL a.val b.val = (a - b).val := by
  have h := rF_subL (a := a.val) b.isLt
  rw [rF_val, rF_val] at h
  rw [← h, val_rF, Nat.mod_eq_of_lt (subL_lt a.isLt)]
theorem val_addF {a b : Nat} : (a + b) % lN = (rF a + rF b).val := by rw [← rF_add, val_rF]
theorem val_mulF {a b : Nat} : a * b % lN = (rF a * rF b).val := by rw [← rF_mul, val_rF]
theorem val_subF {a b : Nat} : subL (a % lN) (b % lN) = (rF a - rF b).val := by rw [← val_rF, ← val_rF, val_subL]
/-! ### powers -/
def fp (e : F) : Nat → F
  | 0 => 1
  | n + 1 => fp e n * e
theorem fp_zero (e : F) : fp e 0 = 1 := rfl
theorem fp_succ (e : F) (n : Nat) : fp e (n + 1) = fp e n * e := rfl
theorem fp_add (e : F) (m : Nat) : ∀ n, fp e (m + n) = fp e m * fp e n
  | 0 => by rw [Nat.add_zero, fp_zero]; grind
  | n + 1 => by rw [← Nat.add_assoc, fp_succ, fp_succ, fp_add e m n]; grind
theorem fp_mul (a b : F) : ∀ n, fp (a * b) n = fp a n * fp b n
  | 0 => by simp only [fp_zero]; grind
  | n + 1 => by simp only [fp_succ, fp_mul a b n]; grind
theorem fp_fp (e : F) (m : Nat) : ∀ n, fp (fp e m) n = fp e (m * n)
  | 0 => rfl
  | n + 1 => by rw [fp_succ, fp_fp e m n, Nat.mul_succ, fp_add]
theorem fp_ones : ∀ n, fp (1 : F) n = 1
  | 0 => rfl
  | n + 1 => by rw [fp_succ, fp_ones n]; grind
theorem fp_rF (a : Nat) : ∀ n, rF (a ^ n) = fp (rF a) n
  | 0 => rfl
  | n + 1 => by rw [Nat.pow_succ, rF_mul, fp_rF a n, fp_succ]
/-! ### inverses -/
def finv (e : F) : F := fp e (lN - 2)
theorem finv_mul {e : F} (h : e ≠ 0) : e * finv e = 1 := by
  have hd : ¬ lN ∣ e.val := fun hd => h (_root_.Fin.ext (by
    have := Nat.eq_zero_of_dvd_of_lt hd e.isLt
    rw [this]; rfl))
  have h1 := fermat pr_l hd
  have h2 : fp e (lN - 1) = 1 := by
    rw [← rF_val e, ← fp_rF, ← rF_one, rF_eq]; exact h1
  have h3 : lN - 1 = (lN - 2) + 1 := by decide
  rw [h3, fp_succ] at h2
  unfold finv
  rw [← h2]; grind
theorem finv_zero : finv (0 : F) = 0 := by
  have h3 : lN - 2 = (lN - 3) + 1 := by decide
  unfold finv
  rw [h3, fp_succ]; grind
theorem finv_of {a x : F} (h : a * x = 1) : x = finv a := by
  have h0 : a ≠ 0 := fun e => by
    rw [e] at h
    have : (0 : F) = 1 := by rw [← h]; grind
    exact absurd (congrArg _root_.Fin.val this) (by decide)
  have h1 := finv_mul h0
  have e1 : x = (a * finv a) * x := by rw [h1]; grind
  have e2 : (a * finv a) * x = (a * x) * finv a := by grind
  rw [e1, e2, h]; grind
theorem finv_fp (e : F) (n : Nat) : finv (fp e n) = fp (finv e) n := by
  unfold finv
  rw [fp_fp, fp_fp, Nat.mul_comm]
theorem fp_ne {e : F} (h : e ≠ 0) (n : Nat) : fp e n * fp (finv e) n = 1 := by rw [← fp_mul, finv_mul h, fp_ones]
end Go.Vc
